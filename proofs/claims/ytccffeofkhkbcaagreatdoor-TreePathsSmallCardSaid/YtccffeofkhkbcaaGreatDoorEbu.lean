/- The texts T4H T5 T5H TrD T5N T6 T6H T7 T7H T8 T8H T9H T10 TrE TrF W15 T10H T11 T11H T12 T12H T13 T13H T14 T14H T15 T15H T16 T16H T17H T18H. -/
import Derived.Test.YtccffeofkhkbcaaGreatDoorEbt
import Derived.Lib.IndexAny
import Derived.Lib.LaidTab
import Derived.Lib.LaidU8T
import Derived.Stop.LaidErr
import Derived.Shelf.Vars
import Derived.Lay
import Derived.Deep.DeepHandedRow
import Derived.SevenTiedAt
import Derived.ProofKit
import Derived.Test.YtccffeofkhkbcaaGreatDoorRows
/- Tree: mark, rising. -/
namespace Pi
open Go Go.Proofs
set_option maxRecDepth 100000
theorem inM_some {L : List Id3} {k v : D} (h : inM L k = some v) : ∃ x ∈ L, k = ixD x ∧ v = .agg [] := by
  unfold inM mpD at h
  split at h
  · rename_i a b c
    by_cases hx : (a, b, c) ∈ L
    · simp only [if_pos hx, Option.map_some, Option.some.injEq] at h
      exact ⟨_, hx, rfl, h.symm⟩
    · simp only [if_neg hx, Option.map_none] at h
      cases h
  · cases h
theorem inM_none {L : List Id3} (h : ∀ k, inM L k = none) : L = [] := by
  cases L with
  | nil => rfl
  | cons x r =>
    have := h (ixD x)
    rw [inM_id] at this
    simp at this
theorem inM_ext {a b : List Id3} (h : ∀ z, z ∈ a ↔ z ∈ b) : inM a = inM b := by
  have : (fun x => if x ∈ a then some () else none) = (fun x : Id3 => if x ∈ b then some () else none) := by
    funext x
    by_cases hx : x ∈ a
    · rw [if_pos hx, if_pos ((h x).1 hx)]
    · rw [if_neg hx, if_neg (fun hb => hx ((h x).2 hb))]
  unfold inM
  rw [this]
theorem inM_del {L : List Id3} (hn : L.Nodup) (x : Id3) : delD (ixD x) (inM L) = inM (L.erase x) := by
  funext d
  cases hd : D.eqB (ixD x) d with
  | true =>
    have := (D.eqB_iff _ _).1 hd
    subst this
    rw [delD_same, inM_id, if_neg (fun h => (hn.mem_erase_iff.1 h).1 rfl)]
    rfl
  | false =>
    have hne : ixD x ≠ d := fun e => by rw [(D.eqB_iff _ _).2 e] at hd; cases hd
    rw [delD_ne _ hne]
    unfold inM mpD
    split
    · rename_i a b c
      have hx : (a, b, c) ≠ x := fun e => hne (by rw [← e]; rfl)
      simp only [hn.mem_erase_iff]
      by_cases h : (a, b, c) ∈ L
      · simp [h, hx]
      · simp [h]
    · rfl
theorem inM_nil : inM [] = noM := by
  funext d
  show mpD _ _ d = none
  unfold mpD
  split <;> rfl
theorem isNo : isD PR 62 (.agg []) = true := by kernel_rfl
theorem drop_cons {α : Type} {l : List α} {k : Nat} (h : k < l.length) (d : α) : l.drop k = l.getD k d :: l.drop (k + 1) := by
  rw [List.drop_eq_getElem_cons h, List.getD_eq_getElem?_getD, List.getElem?_eq_getElem h]
  rfl
theorem drM : PR.follows .mixedOrders = true := by kernel_rfl
section
variable {X : XF} {w0 : World} (hX : CFOK PR w0 X.cf)
include hX
theorem lnMk6 : LN w0 27 6 (loopHook (kpF 27 6) gMk6) := LN.par hX (H := []) (HN := []) (hk := []) drM (by kernel_rfl) (by kernel_rfl) .nil .nil .nil
  (A := List Pl × (D → Option D) × (D → Option D) × (D → Option D) × Option (D × D) × List Id3 × List Id3 × Int × Int) (B := List Id3 × Int)
  (fun ⟨T, f2, f4, g, e, _, w, c2, c4⟩ b => mk6 T f2 (inM b.1) f4 g e w w.length b.2 (T.length : Int) c2 (b.1.length : Int) c4)
  (fun ⟨_, _, _, _, _, V, w, _, _⟩ b => w.length ≤ 1000000 ∧ 0 ≤ b.2 ∧ b.2 ≤ w.length ∧ mkF b.1 (w.drop b.2.toNat) = mkF V w)
  (fun ⟨_, _, _, _, _, _, w, _, _⟩ b => (w.length - b.2).toNat)
  (fun ⟨T, f2, f4, g, e, V, w, c2, c4⟩ x => x = (.exit 1, mk1 T f2 (inM (mkF V w)) f4 g e (T.length : Int) c2 ((mkF V w).length : Int) c4) ∨ x = (.exit 2, mk1 T f2 (inM (mkF V w)) f4 g e (T.length : Int) c2 ((mkF V w).length : Int) c4))
  (by
    rintro ⟨T, f2, f4, g, e, V, w, c2, c4⟩ ⟨V', k⟩ ⟨hm, h0, hk, hv⟩
    dsimp only at *
    (rw [← vcMk6]; delta vcMk6_0 vcMk6_1 vcMk6_2 vcMk6_3 vcMk6_4 vcMk6_5 vcMk6_6 vcMk6_7 vcMk6_8 vcMk6_9 vcMk6_10 vcMk6_11)
    simp only [List.length_map]
    refine condP (fun h => ?_) fun h => ?_
    · have hk' : k.toNat < w.length := by omega
      rw [ix_nth hk']
      rw [drop_cons hk' (0, 0, 0)] at hv
      generalize w.getD k.toNat (0, 0, 0) = u at hv
      refine oblP ⟨h0, by omega⟩ (oblI (by simpa using hk') (oblI (isIx u) (oblI ?_ (condI (fun hs => ?_) fun hs => oblI (incI (by omega) (by omega)) ?_))))
      · show isD PR 62 (getO (inM V' (ixD u)) _) = true
        rw [inM_id]
        by_cases hu : u ∈ V' <;> simp only [hu, if_true, if_false, Option.map_some, Option.map_none] <;> exact isNo
      · have hu : u ∈ V' := by
          have : (inM V' (ixD u)).isSome = true := hs
          rw [inM_id] at this
          by_cases hu : u ∈ V'
          · exact hu
          · simp [hu] at this
        left
        rw [← hv, mkF, if_pos hu]
        rfl
      · have hu : u ∉ V' := fun hu => by
          have : (inM V' (ixD u)).isSome = false := hs
          rw [inM_id] at this
          simp [hu] at this
        rw [mkF, if_neg hu] at hv
        have e1 : lvS V' u = V' ++ [u] := by unfold lvS; rw [if_neg hu]
        refine ⟨((w.length : Int) - (k + 1)).toNat, by omega, (V' ++ [u], k + 1), ?_, ⟨hm, by simp only; omega, by simp only; omega, ?_⟩, rfl⟩
        · have a1 := inM_add (V := V') (x := u)
          have a2 := inM_len V' u
          rw [e1] at a1 a2
          show _ = mk6 T f2 (inM (V' ++ [u])) f4 g e w w.length (k + 1) (T.length : Int) c2 ((V' ++ [u]).length : Int) c4
          rw [← a1, ← a2]
          rfl
        · simp only
          rw [show (k + 1).toNat = k.toNat + 1 by omega]
          exact hv
    · have : k.toNat = w.length := by omega
      rw [this, List.drop_length, mkF] at hv
      subst hv
      right
      rfl)
  (by
    rintro s post ⟨T, f2, f4, g, e, V, w, c2, c4, rfl, ⟨hm, _⟩, h1, h2⟩
    refine ⟨(T, f2, f4, g, e, V, w, c2, c4), (V, 0), rfl, ⟨hm, by simp, by simp, by simp⟩, ?_⟩
    rintro x (rfl | rfl)
    · exact h1
    · exact h2)
theorem lnMk1 : LN w0 27 1 (loopHook (kpF 27 1) gMk1) := LN.par hX (H := [(49, hWay)]) (HN := []) (hk := [(6, loopHook (kpF 27 6) gMk6)]) drM (by kernel_rfl) (by kernel_rfl) (.cons okWay .nil) .nil (.cons (lnMk6 hX) .nil)
  (A := List Pl × List Id3 × (D → Option D) × Int) (B := List Id3 × List Id3 × List Id3 × Option (D × D))
  (fun ⟨T, V, f4, c4⟩ ⟨S, L, _, e⟩ => mk1 T (inM V) (inM S) f4 (inM L) e (T.length : Int) (V.length : Int) (S.length : Int) c4)
  (fun ⟨T, V, _, _⟩ ⟨S, L, Dn, _⟩ => T.length ≤ 1000000 ∧ Uq T ∧ L.Nodup ∧ (∀ z, z ∈ V ↔ z ∈ Dn ∨ z ∈ L) ∧ UpC T S ∧ S.Nodup ∧ ∀ z, z ∈ S ↔ marked T Dn z = true)
  (fun _ b => b.2.1.length)
  (fun ⟨T, V, f4, c4⟩ x => x = (.exit 0, ⟨49, [(0, .ref 0 0 0)], nodT (plM T) (inM V) (inM (seenI T V)) f4 (T.length : Int) (V.length : Int) ((seenI T V).length : Int) c4 true false⟩))
  (by
    rintro ⟨T, V, f4, c4⟩ ⟨S, L, Dn, e⟩ ⟨hm, hu, hn, hV, hS, hSn, hSm⟩
    dsimp only at *
    (rw [← vcMk1]; delta vcMk1_0 vcMk1_1 vcMk1_2 vcMk1_3 vcMk1_4 vcMk1_5 vcMk1_6 vcMk1_7 vcMk1_8 vcMk1_9 vcMk1_10 vcMk1_11 vcMk1_12 vcMk1_13 vcMk1_14 vcMk1_15 vcMk1_16 vcMk1_17)
    have hSl : S.length ≤ T.length := by
      have : S ⊆ T.map (·.1) := fun z hz => by
        obtain ⟨p, hp⟩ := marked_at ((hSm z).1 hz)
        obtain ⟨h2, h3⟩ := atPl_mem hp
        exact List.mem_map.2 ⟨p, h2, h3⟩
      simpa using hSn.length_le_of_subset this
    refine ⟨fun k v hk => ?_, fun hno => ?_⟩
    · obtain ⟨x, hx, rfl, rfl⟩ := inM_some hk
      have hdel := inM_del hn x
      have hlen : (L.erase x).length < L.length := by
        rw [List.length_erase_of_mem hx]
        have : 0 < L.length := List.length_pos_of_mem hx
        omega
      have hV' : ∀ z, z ∈ V ↔ z ∈ Dn ++ [x] ∨ z ∈ L.erase x := fun z => by
        rw [hV z, List.mem_append, List.mem_singleton, hn.mem_erase_iff]
        constructor
        · rintro (h | h)
          · exact .inl (.inl h)
          · by_cases hz : z = x
            · exact .inl (.inr hz)
            · exact .inr ⟨hz, h⟩
        · rintro ((h | h) | h)
          · exact .inl h
          · exact .inr (h ▸ hx)
          · exact .inr h.2
      have hmk : ∀ z, marked T (Dn ++ [x]) z = true ↔ marked T Dn z = true ∨ ∃ w, Up T x w ∧ z ∈ w := fun z => by
        rw [marked_iff, marked_iff]
        constructor
        · rintro ⟨y, hy, h⟩
          rcases List.mem_append.1 hy with hy | hy
          · exact .inl ⟨y, hy, h⟩
          · rw [List.mem_singleton] at hy; subst hy; exact .inr h
        · rintro (⟨y, hy, h⟩ | h)
          · exact ⟨y, List.mem_append_left _ hy, h⟩
          · exact ⟨x, by simp, h⟩
      have next : ∀ S' : List Id3, S' = markR T S x → ∃ m, m < L.length ∧ ∃ b' : List Id3 × List Id3 × List Id3 × Option (D × D), (mk1 T (inM V) (inM S') f4 (delD (ixD x) (inM L)) (some (ixD x, .agg [])) (T.length : Int) (V.length : Int) (S'.length : Int) c4 : Pi.S) = mk1 T (inM V) (inM b'.1) f4 (inM b'.2.1) b'.2.2.2 (T.length : Int) (V.length : Int) (b'.1.length : Int) c4 ∧
          (T.length ≤ 1000000 ∧ Uq T ∧ b'.2.1.Nodup ∧ (∀ z, z ∈ V ↔ z ∈ b'.2.2.1 ∨ z ∈ b'.2.1) ∧ UpC T b'.1 ∧ b'.1.Nodup ∧ ∀ z, z ∈ b'.1 ↔ marked T b'.2.2.1 z = true) ∧ m = b'.2.1.length := fun S' hS' => by
        obtain ⟨g1, g2, g3⟩ := markR_ok x hS hSn
        rw [← hS'] at g1 g2 g3
        refine ⟨_, hlen, (S', L.erase x, Dn ++ [x], some (ixD x, .agg [])), by rw [hdel], ⟨hm, hu, hn.erase _, hV', g1, g2, fun z => ?_⟩, rfl⟩
        rw [g3, hmk, hSm]
      refine oblI (isIx x) (oblI isNo ⟨T, x, inM V, inM S, f4, _, _, c4, true, false, rfl, rfl, hm, fun w hw => ?_, fun hw => ?_⟩)
      · have hup := wy_iff.1 hw
        have := next (mkF S w) (by unfold markR; rw [hw])
        exact ⟨T, inM V, f4, _, _, S, w, _, c4, rfl, ⟨by have := hup.len; omega, by omega⟩, this, this⟩
      · exact next S (by unfold markR; rw [hw])
    · have := inM_none hno
      subst this
      have hVD : ∀ z, z ∈ V ↔ z ∈ Dn := fun z => by rw [hV z]; simp
      have hp := seen_perm hu hSn (live := V) fun z => by rw [hSm, marked_ext hVD]
      show _ = _
      rw [← inM_ext (a := S) (b := seenI T V) fun z => hp.mem_iff, ← hp.length_eq]
      rfl)
  (by
    rintro s post ⟨T, V, f4, c4, rfl, ⟨hm, hu, hn⟩, hp⟩
    refine ⟨(T, V, f4, c4), ([], V, [], none), ?_, ⟨hm, hu, hn, fun z => by simp, fun z hz => by simp at hz, by simp, fun z => by simp [marked]⟩, ?_⟩
    · show _ = mk1 T (inM V) (inM []) f4 (inM V) none _ _ _ c4
      rw [inM_nil]
      rfl
    · rintro x rfl
      exact hp)
theorem ndMark : ND w0 27 hMark := ND.mk hX (H := []) (HN := []) (hk := [(1, loopHook (kpF 27 1) gMk1)]) drM (by kernel_rfl) .nil .nil (.cons (lnMk1 hX) .nil) (by
  intro ps R post hh
  obtain ⟨T, V, f4, c4, z2, rfl, rfl, hc, hp⟩ := hh
  (rw [← vcMark]; delta vcMark_0 vcMark_1 vcMark_2 vcMark_3 vcMark_4)
  exact ⟨T, V, f4, c4, rfl, hc, hp⟩)
theorem lnRs3 : LN w0 50 3 (loopHook (kpF 50 3) gRs3) := LN.par hX (H := []) (HN := []) (hk := []) drM (by kernel_rfl) (by kernel_rfl) .nil .nil .nil
  (A := List Pl × List Id3 × (D → Option D) × (D → Option D) × Int × Int × Int × Bool) (B := List Id3 × List Id3 × Option (D × D))
  (fun ⟨T, V, f2, f4, c1, c2, c4, z2⟩ ⟨out, L, e⟩ => rs3 T f2 (inM V) f4 (inM L) e out out.length c1 c2 (V.length : Int) c4 z2)
  (fun ⟨_, V, _⟩ ⟨out, L, _⟩ => V.length ≤ 1000000 ∧ L.Nodup ∧ (out ++ L).Perm V)
  (fun _ b => b.2.1.length)
  (fun ⟨T, V, f2, f4, c1, c2, c4, z2⟩ x => ∃ out : List Id3, out.Perm V ∧ x = (.exit 0, ⟨27, [(0, .ref 0 0 0), (3, .sl 5 0 out.length)], nodT (plM T) f2 (inM V) f4 c1 c2 (V.length : Int) c4 z2 true ++ [(5, ⟨0, none, .arr 41 false (out.map ixD)⟩)]⟩))
  (by
    rintro ⟨T, V, f2, f4, c1, c2, c4, z2⟩ ⟨out, L, e⟩ ⟨hm, hn, hp⟩
    dsimp only at *
    (rw [← vcRs3]; delta vcRs3_0 vcRs3_1 vcRs3_2 vcRs3_3 vcRs3_4 vcRs3_5 vcRs3_6 vcRs3_7 vcRs3_8)
    have hl := hp.length_eq
    rw [List.length_append] at hl
    refine ⟨fun k v hk => ?_, fun hno => ?_⟩
    · obtain ⟨x, hx, rfl, rfl⟩ := inM_some hk
      have hdel := inM_del hn x
      have h0 : 0 < L.length := List.length_pos_of_mem hx
      have hlen : (L.erase x).length < L.length := by
        rw [List.length_erase_of_mem hx]
        omega
      refine oblI (isIx x) (oblI isNo (oblI ?_ ⟨_, hlen, (out ++ [x], L.erase x, some (ixD x, .agg [])), ?_, ⟨hm, hn.erase _, ?_⟩, rfl⟩))
      · rw [List.length_map]
        simp [roomOk]
        omega
      · show _ = rs3 T f2 (inM V) f4 (inM (L.erase x)) (some (ixD x, .agg [])) (out ++ [x]) (out ++ [x]).length c1 c2 (V.length : Int) c4 z2
        rw [take_ix, ← hdel]
        simp only [rs3, List.map_append, List.length_append, List.map_cons, List.map_nil]
        rfl
      · simp only
        refine List.Perm.trans ?_ hp
        rw [List.append_assoc]
        exact (List.perm_cons_erase hx).symm.append_left out
    · have := inM_none hno
      subst this
      exact ⟨out, by simpa using hp, rfl⟩)
  (by
    rintro s post ⟨T, V, f2, f4, c1, c2, c4, z2, rfl, ⟨hm, hn⟩, hp⟩
    refine ⟨(T, V, f2, f4, c1, c2, c4, z2), ([], V, none), rfl, ⟨hm, hn, by simp⟩, ?_⟩
    rintro x ⟨out, h1, rfl⟩
    exact hp out h1)
omit hX in
theorem cfX_lt (x y : Id3) : cfX (ixD x) (ixD y) < 0 ↔ ltX x y = true := cmpX_lt x y
omit hX in
theorem cmpOnX (l : List Id3) (hl : l.length ≤ 1000000) : CmpOn PR kp0 68 (l.map ixD) cfX where
  fn := ⟨_, Tryz.func68, by kernel_rfl, by kernel_rfl⟩
  ag := fun d hd => by
    obtain ⟨x, _, rfl⟩ := List.mem_map.1 hd
    exact ⟨_, rfl⟩
  len := by simp; omega
  run := fun a ha b hb => by
    obtain ⟨x, _, rfl⟩ := List.mem_map.1 ha
    obtain ⟨y, _, rfl⟩ := List.mem_map.1 hb
    exact FC.cmps fcCmpId ⟨_, _, _, _, _, _, rfl, rfl, rfl⟩
  irr := fun a ha => by
    obtain ⟨x, _, rfl⟩ := List.mem_map.1 ha
    rw [cfX_lt, lin_X.irr]
    simp
  tr := fun a ha b hb c hc => by
    obtain ⟨x, _, rfl⟩ := List.mem_map.1 ha
    obtain ⟨y, _, rfl⟩ := List.mem_map.1 hb
    obtain ⟨z, _, rfl⟩ := List.mem_map.1 hc
    rw [cfX_lt, cfX_lt, cfX_lt]
    exact lin_X.tr x y z
  ntr := fun a ha b hb c hc => by
    obtain ⟨x, _, rfl⟩ := List.mem_map.1 ha
    obtain ⟨y, _, rfl⟩ := List.mem_map.1 hb
    obtain ⟨z, _, rfl⟩ := List.mem_map.1 hc
    rw [cfX_lt, cfX_lt, cfX_lt]
    intro h1 h2
    simpa using lin_X.ntr (by simpa using h1) (by simpa using h2)
omit hX in
theorem okSortId : FD X 67 (hSortA 68 cfX 41) := FD.ofX Tryz.func67 (by kernel_rfl) (by kernel_rfl) fun ps R post h => hSort_told (hSortA_hSort h)
omit hX in
theorem unmap {α β : Type} (f : α → β) (g : β → α) (hg : ∀ x, g (f x) = x) {l : List α} {l' : List β} (h : l'.Perm (l.map f)) : ∃ l2 : List α, l' = l2.map f ∧ l2.Perm l := by
  refine ⟨l'.map g, ?_, ?_⟩
  · rw [List.map_map]
    refine (List.map_id l').symm.trans (List.map_congr_left fun b hb => ?_)
    obtain ⟨a, _, rfl⟩ := List.mem_map.1 (h.mem_iff.1 hb)
    simp [hg]
  · have := h.map g
    rw [List.map_map] at this
    rwa [show (g ∘ f) = id from funext hg, List.map_id] at this
/-- An id of its data. -/
def unIx : D → Id3
  | .agg [.int .i64 a, .int .i64 b, .int .i64 c] => (a, b, c)
  | _ => (0, 0, 0)
theorem ndRising : ND w0 50 hRising := ND.mk hX (H := [(67, hSortA 68 cfX 41)]) (HN := []) (hk := [(3, loopHook (kpF 50 3) gRs3)]) drM (by kernel_rfl) (.cons okSortId .nil) .nil (.cons (lnRs3 hX) .nil) (by
  intro ps R post hh
  obtain ⟨T, V, f2, f4, c1, c2, c4, z2, z3, rfl, rfl, ⟨hm, hn⟩, hp⟩ := hh
  (rw [← vcRs]; delta vcRs_0 vcRs_1 vcRs_2 vcRs_3 vcRs_4 vcRs_5 vcRs_6 vcRs_7 vcRs_8)
  refine oblI (decT ⟨by omega, by omega, by omega, by omega⟩) ⟨T, V, f2, f4, c1, c2, c4, z2, rfl, ⟨hm, hn⟩, fun out ho => ⟨out.map ixD, by rw [List.length_map], rfl, cmpOnX out (by rw [ho.length_eq]; exact hm), fun es' h1 h2 => ?_⟩⟩
  obtain ⟨l2, rfl, h3⟩ := unmap ixD unIx (fun _ => rfl) h1
  rw [List.pairwise_map] at h2
  have e := sortI_of lin_X (h3.trans ho) (h2.imp fun {a b} h => by rw [cfX_lt] at h; simpa using h)
  rw [e, ho.length_eq]
  exact hp)
end
end Pi

/- Tree: name, path: what their runs ask. -/
namespace Pi
open Go Go.Proofs
set_option maxRecDepth 100000
set_option maxHeartbeats 0
/-! name -/
abbrev nm2 (L : List Id3) (n : Nat) (k : Int) (h : D → Option D) (c : Int) (T : List Pl) (f2 f3 f4 : D → Option D) (c1 c2 c3 c4 : Int) (z2 : Bool) : S :=
  ⟨56, [(0, .ref 0 0 0), (2, .mp 5 0), (9, .sl 6 0 n), (10, iD n), (11, iD k)], nodT (plM T) f2 f3 f4 c1 c2 c3 c4 z2 true ++ [(5, ⟨0, none, .map 86 h c false⟩), (6, ⟨0, none, .arr 41 false (L.map ixD)⟩)]⟩
/-- What the nodes are seen as, as data. -/
abbrev asM (T : List Pl) (V L : List Id3) : D → Option D := mpD D.str (fun x => if x ∈ L then some (nmX T V x) else none)
def gNm2 : S → K (PX × S) := fun s post => ∃ T V f2 f3 c1 c2 c3 z2, s = nm2 (sortI ltX (seenI T V)) (seenI T V).length 0 noM 0 T f2 f3 noM c1 c2 c3 0 z2 ∧ (T.length ≤ 1000000 ∧ Rt T) ∧
  post (.exit 0, ⟨56, [(0, .ref 0 0 0)], nodT (plM T) f2 f3 (asM T V (seenI T V)) c1 c2 c3 ((seenI T V).length : Int) z2 true⟩)
def vcNm2_0 (L : List Id3) (k : Int) : D := D.nth (List.map ixD L) (Int.toNat k)
def vcNm2_1 (L : List Id3) (k : Int) : D := D.int IntKind.i64 (D.iVal (D.cAt (vcNm2_0 L k) 0))
def vcNm2_2 (L : List Id3) (k : Int) : D := D.agg [vcNm2_1 L k, D.int IntKind.i64 (D.iVal (D.cAt (vcNm2_0 L k) 1)), D.int IntKind.i64 (D.iVal (D.cAt (vcNm2_0 L k) 2))]
def vcNm2_3  : D := D.int IntKind.i64 (0 : Int)
def vcNm2_4 (L : List Id3) (k : Int) (T : List Pl) : D := getO (plM T (vcNm2_2 L k)) (D.agg [vcNm2_3, vcNm2_3, vcNm2_3, vcNm2_3, vcNm2_3, vcNm2_3, D.str [], D.bool false])
def vcNm2_5 (L : List Id3) (k : Int) (T : List Pl) : D := D.str (D.sVal (D.cAt (vcNm2_4 L k T) 6))
def vcNm2_6 (L : List Id3) (k : Int) (T : List Pl) : D := D.agg [D.int IntKind.i64 (D.iVal (D.cAt (vcNm2_4 L k T) 3)), D.int IntKind.i64 (D.iVal (D.cAt (vcNm2_4 L k T) 4)), D.int IntKind.i64 (D.iVal (D.cAt (vcNm2_4 L k T) 5)), vcNm2_5 L k T]
def vcNm2_7  : Int := (-9223372036854775808 : Int)
def vcNm2_8 (L : List Id3) (k : Int) (h : D → Option D) (T : List Pl) : Int := D.iVal (getO (h (vcNm2_6 L k T)) vcNm2_3) + (1 : Int)
def vcNm2_9 (L : List Id3) (k : Int) (h : D → Option D) (T : List Pl) : D := getO (updD (vcNm2_6 L k T) (D.int IntKind.i64 (vcNm2_8 L k h T)) (updD (vcNm2_6 L k T) (getO (h (vcNm2_6 L k T)) vcNm2_3) h) (vcNm2_6 L k T)) vcNm2_3
def vcNm2_10 (k : Int) : Int := k + (1 : Int)
def vcNm2_11 (k : Int) : Bool := decide (vcNm2_7 ≤ vcNm2_10 k ∧ vcNm2_10 k ≤ (9223372036854775807 : Int))
def vcNm2_12  : Nat × P := (0, P.ref 0 0 0)
def vcNm2_13 (n : Nat) (k : Int) : List (Nat × P) := [vcNm2_12, (2, P.mp 5 0), (9, P.sl 6 0 n), (10, P.d (D.int IntKind.i64 (↑n : Int))), (11, P.d (D.int IntKind.i64 (vcNm2_10 k)))]
def vcNm2_14  : Nat × En := (0, En.mk 0 (some 0) (Obj.box (61 : TypeId) [P.mp 1 0, P.mp 2 0, P.mp 3 0, P.mp 4 0]))
def vcNm2_15 (T : List Pl) (c1 : Int) : Nat × En := (1, En.mk 0 (some 1) (Obj.map 41 (fun (x : D) => match x with | D.agg [D.int IntKind.i64 a, D.int IntKind.i64 b, D.int IntKind.i64 c] => Option.map plD (atPl T (a, b, c)) | _ => none) c1 false))
def vcNm2_16 (f2 : D → Option D) (c2 : Int) (z2 : Bool) : Nat × En := (2, En.mk 0 (some 2) (Obj.map 41 f2 c2 z2))
def vcNm2_17 (f3 : D → Option D) (c3 : Int) : Nat × En := (3, En.mk 0 (some 3) (Obj.map 41 f3 c3 true))
def vcNm2_18  : Nat := 0 + 1
def vcNm2_19  : Nat := vcNm2_18 + 1
def vcNm2_20 (L : List Id3) (k : Int) : D := D.agg [vcNm2_1 L k, D.int IntKind.i64 (D.iVal (D.cAt (vcNm2_0 L k) vcNm2_18)), D.int IntKind.i64 (D.iVal (D.cAt (vcNm2_0 L k) vcNm2_19))]
def vcNm2_21 (L : List Id3) (k : Int) (T : List Pl) : D := getO (plM T (vcNm2_20 L k)) (D.agg [vcNm2_3, vcNm2_3, vcNm2_3, vcNm2_3, vcNm2_3, vcNm2_3, D.str (Array.toList (ByteArray.data (ByteArray.mk #[]))), D.bool false])
def vcNm2_22  : Nat := vcNm2_19 + 1
def vcNm2_23  : Nat := vcNm2_22 + 1
def vcNm2_24  : Nat := vcNm2_23 + 1
def vcNm2_25 (L : List Id3) (k : Int) (T : List Pl) : List UInt8 := D.sVal (D.cAt (vcNm2_21 L k T) (vcNm2_24 + 1))
def vcNm2_26 (L : List Id3) (k : Int) (f4 : D → Option D) (c4 : Int) : Int := bif Option.isSome (f4 (vcNm2_2 L k)) then c4 else c4 + (1 : Int)
def vcNm2_27 (L : List Id3) (k : Int) (T : List Pl) : D := D.agg [D.int IntKind.i64 (D.iVal (D.cAt (vcNm2_21 L k T) vcNm2_22)), D.int IntKind.i64 (D.iVal (D.cAt (vcNm2_21 L k T) vcNm2_23)), D.int IntKind.i64 (D.iVal (D.cAt (vcNm2_21 L k T) vcNm2_24)), D.str (Array.toList (ByteArray.data (ByteArray.mk (Array.mk (vcNm2_25 L k T)))))]
def vcNm2_28 (L : List Id3) (k : Int) (h : D → Option D) (c : Int) (T : List Pl) : List (Nat × En) := [(5, En.mk 0 none (Obj.map 86 (fun (k' : D) => bif D.eqB (vcNm2_27 L k T) k' then some (D.int IntKind.i64 (D.iVal (getO (h (vcNm2_27 L k T)) vcNm2_3) + (1 : Int))) else updD (vcNm2_27 L k T) (getO (h (vcNm2_27 L k T)) vcNm2_3) h k') (bif Option.isSome (h (vcNm2_6 L k T)) then c else c + (1 : Int)) false)), (6, En.mk 0 none (Obj.arr (41 : TypeId) false (List.map ixD L)))]
theorem vcNm2 (L : List Id3) (n : Nat) (k : Int) (h : D → Option D) (c : Int) (T : List Pl) (f2 f3 f4 : D → Option D) (c1 c2 c3 c4 : Int) (z2 : Bool) (post : PX × S → Prop) : (bif decide (k < (↑n : Int)) then bif decide ((0 : Int) ≤ k ∧ k < (↑n : Int)) then bif decide (Int.toNat k < List.length (List.map ixD L)) then bif isD PR (41 : TypeId) (vcNm2_0 L k) then bif isD PR (47 : TypeId) (vcNm2_4 L k T) then bif isD PR (3 : TypeId) (getO (h (vcNm2_6 L k T)) vcNm2_3) then bif decide (vcNm2_7 ≤ vcNm2_8 L k h T ∧ vcNm2_8 L k h T ≤ (9223372036854775807 : Int)) then bif isD PR (3 : TypeId) (vcNm2_9 L k h T) then bif decide (D.iVal (vcNm2_9 L k h T) > (1 : Int)) then ∃ (s : List UInt8), ∃ (t : Int), ∃ (r : Int), ∃ (i : Int), [P.d (vcNm2_5 L k T), P.d (vcNm2_2 L k)] = [P.d (D.str s), P.d (D.agg [D.int IntKind.i64 t, D.int IntKind.i64 r, D.int IntKind.i64 i])] ∧ EqR [] [] ∧ bif vcNm2_11 k then post (PX.normal, S.mk 56 (vcNm2_13 n k) (vcNm2_14 :: vcNm2_15 T c1 :: vcNm2_16 f2 c2 z2 :: vcNm2_17 f3 c3 :: (4, En.mk 0 (some 4) (Obj.map 41 (fun (k' : D) => bif D.eqB (vcNm2_20 L k) k' then some (D.str (Prod.fst (clashP s t r i))) else updD (vcNm2_20 L k) (D.str (vcNm2_25 L k T)) f4 k') (bif Option.isSome (updD (vcNm2_2 L k) (vcNm2_5 L k T) f4 (vcNm2_2 L k)) then vcNm2_26 L k f4 c4 else vcNm2_26 L k f4 c4 + (1 : Int)) false)) :: vcNm2_28 L k h c T)) else False else bif vcNm2_11 k then post (PX.normal, S.mk 56 (vcNm2_13 n k) (vcNm2_14 :: vcNm2_15 T c1 :: vcNm2_16 f2 c2 z2 :: vcNm2_17 f3 c3 :: (4, En.mk 0 (some 4) (Obj.map 41 (fun (k' : D) => bif D.eqB (vcNm2_20 L k) k' then some (D.str (vcNm2_25 L k T)) else f4 k') (vcNm2_26 L k f4 c4) false)) :: vcNm2_28 L k h c T)) else False else False else False else False else False else False else False else False else post (PX.exit 0, S.mk 56 [vcNm2_12] [vcNm2_14, vcNm2_15 T c1, vcNm2_16 f2 c2 z2, vcNm2_17 f3 c3, (4, En.mk 0 (some 4) (Obj.map 41 f4 c4 false))])) = (roundLN [(51, hClash)] [] [] 28 2 (nm2 L n k h c T f2 f3 f4 c1 c2 c3 c4 z2)) post := by kernel_rfl
def vcNmB_0  : P := P.ref 0 0 0
def vcNmB_1  : Nat × En := (0, En.mk 0 (some 0) (Obj.box (61 : TypeId) [P.mp 1 0, P.mp 2 0, P.mp 3 0, P.mp 4 0]))
def vcNmB_2 (v0 : List Pl) (v5 : Int) : Nat × En := (1, En.mk 0 (some 1) (Obj.map 41 (fun (x : D) => match x with | D.agg [D.int IntKind.i64 a, D.int IntKind.i64 b, D.int IntKind.i64 c] => Option.map plD (atPl v0 (a, b, c)) | _ => none) v5 false))
def vcNmB_3 (v3 : D → Option D) (v6 : Int) (v8 : Bool) : Nat × En := (2, En.mk 0 (some 2) (Obj.map 41 v3 v6 v8))
def vcNmB_4 (v4 : D → Option D) (v7 : Int) : Nat × En := (4, En.mk 0 (some 4) (Obj.map 41 v4 v7 false))
def vcNmB_5  : Nat × P := (2, P.mp 5 0)
def vcNmB_6  : List (Nat × P) := [(11, P.d (D.int IntKind.i64 (0 : Int)))]
def vcNmB_7  : Nat × En := (5, En.mk 0 none (Obj.map 86 (fun (_ : D) => none) (0 : Int) false))
def vcNmB_8 (v25 : List Pl) (v29 : Int) : Nat × En := (1, En.mk 0 (some 1) (Obj.map 41 (fun (x : D) => match x with | D.agg [D.int IntKind.i64 a, D.int IntKind.i64 b, D.int IntKind.i64 c] => Option.map plD (atPl v25 (a, b, c)) | _ => none) v29 false))
def vcNmB_9 (v27 : D → Option D) (v30 : Int) (v32 : Bool) : Nat × En := (2, En.mk 0 (some 2) (Obj.map 41 v27 v30 v32))
def vcNmB_10 (v28 : D → Option D) (v31 : Int) : Nat × En := (3, En.mk 0 (some 3) (Obj.map 41 v28 v31 true))
theorem vcNmB (T : List Pl) (f2 f3 f4 : D → Option D) (c1 c2 c3 c4 : Int) (z2 z3 : Bool) (post : P × List (Nat × En) → Prop) : (∃ (T_1 : List Pl), ∃ (V : List Id3), ∃ (f2_1 : D → Option D), ∃ (f4_1 : D → Option D), ∃ (c1_1 : Int), ∃ (c2_1 : Int), ∃ (c4_1 : Int), ∃ (z2_1 : Bool), ∃ (z3_1 : Bool), [vcNmB_0] = [vcNmB_0] ∧ [vcNmB_1, (1, En.mk 0 (some 1) (Obj.map 41 (fun (x : D) => match x with | D.agg [D.int IntKind.i64 a, D.int IntKind.i64 b, D.int IntKind.i64 c] => Option.map plD (atPl T (a, b, c)) | _ => none) c1 false)), (2, En.mk 0 (some 2) (Obj.map 41 f2 c2 z2)), (3, En.mk 0 (some 3) (Obj.map 41 f3 c3 z3)), (4, En.mk 0 (some 4) (Obj.map 41 f4 c4 false))] = [vcNmB_1, vcNmB_2 T_1 c1_1, vcNmB_3 f2_1 c2_1 z2_1, (3, En.mk 0 (some 3) (Obj.map 41 (fun (x : D) => match x with | D.agg [D.int IntKind.i64 a, D.int IntKind.i64 b, D.int IntKind.i64 c] => Option.map (fun (_ : Unit) => D.agg []) ((fun (x : Id3) => if x ∈ V then some () else none) (a, b, c)) | _ => none) (↑(List.length V) : Int) z3_1)), vcNmB_4 f4_1 c4_1] ∧ (List.length V ≤ 1000000 ∧ List.Nodup V) ∧ ∃ (T : List Pl), ∃ (V_1 : List Id3), ∃ (f2 : D → Option D), ∃ (f3 : D → Option D), ∃ (c1 : Int), ∃ (c2 : Int), ∃ (c3 : Int), ∃ (z2 : Bool), S.mk 56 ((0, vcNmB_0) :: vcNmB_5 :: (9, P.sl 6 0 (List.length V)) :: (10, P.d (D.int IntKind.i64 (↑(List.length V) : Int))) :: vcNmB_6) [vcNmB_1, vcNmB_2 T_1 c1_1, vcNmB_3 f2_1 c2_1 z2_1, (3, En.mk 0 (some 3) (Obj.map 41 (fun (x : D) => match x with | D.agg [D.int IntKind.i64 a, D.int IntKind.i64 b, D.int IntKind.i64 c] => Option.map (fun (_ : Unit) => D.agg []) ((fun (x : Id3) => if x ∈ V then some () else none) (a, b, c)) | _ => none) (↑(List.length V) : Int) true)), vcNmB_4 f4_1 c4_1, vcNmB_7, (6, En.mk 0 none (Obj.arr (41 : TypeId) false (List.map ixD (sortI ltX V))))] = S.mk 56 ((0, vcNmB_0) :: vcNmB_5 :: (9, P.sl 6 0 (List.length (seenI T V_1))) :: (10, P.d (D.int IntKind.i64 (↑(List.length (seenI T V_1)) : Int))) :: vcNmB_6) [vcNmB_1, vcNmB_8 T c1, vcNmB_9 f2 c2 z2, vcNmB_10 f3 c3, (4, En.mk 0 (some 4) (Obj.map 41 (fun (_ : D) => none) (0 : Int) false)), vcNmB_7, (6, En.mk 0 none (Obj.arr (41 : TypeId) false (List.map ixD (sortI ltX (seenI T V_1)))))] ∧ (List.length T ≤ 1000000 ∧ Rt T) ∧ post (P.tup [], [vcNmB_1, vcNmB_8 T c1, vcNmB_9 f2 c2 z2, vcNmB_10 f3 c3, (4, En.mk 0 (some 4) (Obj.map 41 (fun (x : D) => match x with | D.agg [D.int IntKind.i64 a, D.int IntKind.i64 b, D.int IntKind.i64 c] => Option.map D.str ((fun (x : Id3) => if x ∈ seenI T V_1 then some (nmX T V_1 x) else none) (a, b, c)) | _ => none) (↑(List.length (seenI T V_1)) : Int) false))])) = (bodyFN [] [(50, hRising)] [(2, loopHook (kpF 28 2) gNm2)] 28 [.ref 0 0 0] (nodT (plM T) f2 f3 f4 c1 c2 c3 c4 z2 z3)) post := by kernel_rfl
def hNames : KF1 := fun ps R post => ∃ T V f2 c1 c2 z2 z3, ps = [.ref 0 0 0] ∧ R = nodT (plM T) f2 (inM (seenI T V)) noM c1 c2 ((seenI T V).length : Int) 0 z2 z3 ∧ (T.length ≤ 1000000 ∧ Rt T) ∧
  post (.tup [], nodT (plM T) f2 (inM (seenI T V)) (asM T V (seenI T V)) c1 c2 ((seenI T V).length : Int) ((seenI T V).length : Int) z2 true)
/-! path -/
abbrev pt4 (w : List Id3) (n : Nat) (k : Int) (o : List D) (f1 f2 f3 f4 : D → Option D) (c1 c2 c3 c4 : Int) (z2 z3 : Bool) : S :=
  ⟨42, [(0, .ref 0 0 0), (5, .sl 5 0 n), (7, .sl 6 0 n), (19, .sl 5 0 n), (20, iD n), (21, iD k)], nodT f1 f2 f3 f4 c1 c2 c3 c4 z2 z3 ++ [(5, ⟨0, none, .arr 41 false (w.map ixD)⟩), (6, ⟨0, none, .arr 9 false o⟩)]⟩
def gPt4 : S → K (PX × S) := fun s post => ∃ w nm f1 f2 f3 f4 c1 c2 c3 c4 z2 z3, s = pt4 w w.length 0 (List.replicate w.length (.str [])) f1 f2 f3 f4 c1 c2 c3 c4 z2 z3 ∧ (w.length ≤ 1000000 ∧ ∀ u ∈ w, f4 (ixD u) = some (.str (nm u))) ∧
  post (.exit 0, ⟨42, [(0, .ref 0 0 0), (7, .sl 5 0 w.length)], nodT f1 f2 f3 f4 c1 c2 c3 c4 z2 z3 ++ [(5, ⟨0, none, .arr 9 false ((w.reverse.map nm).map D.str)⟩)]⟩)
theorem vcPt4 (w : List Id3) (n : Nat) (k : Int) (o : List D) (f1 f2 f3 f4 : D → Option D) (c1 c2 c3 c4 : Int) (z2 z3 : Bool) (post : PX × S → Prop) : (bif decide (k < (↑n : Int)) then bif decide ((0 : Int) ≤ k ∧ k < (↑n : Int)) then bif decide (Int.toNat k < List.length (List.map ixD w)) then bif isD PR (41 : TypeId) (D.nth (List.map ixD w) (Int.toNat k)) then bif decide ((-9223372036854775808 : Int) ≤ (↑n : Int) - (1 : Int) ∧ (↑n : Int) - (1 : Int) ≤ (9223372036854775807 : Int)) then bif decide ((-9223372036854775808 : Int) ≤ (↑n : Int) - (1 : Int) - k ∧ (↑n : Int) - (1 : Int) - k ≤ (9223372036854775807 : Int)) then bif isD PR 9 (getO (f4 (D.agg [D.int IntKind.i64 (D.iVal (D.cAt (D.nth (List.map ixD w) (Int.toNat k)) 0)), D.int IntKind.i64 (D.iVal (D.cAt (D.nth (List.map ixD w) (Int.toNat k)) 1)), D.int IntKind.i64 (D.iVal (D.cAt (D.nth (List.map ixD w) (Int.toNat k)) 2))])) (D.str [])) then bif decide ((0 : Int) ≤ (↑n : Int) - (1 : Int) - k ∧ (↑n : Int) - (1 : Int) - k < (↑n : Int)) then bif decide (Int.toNat ((↑n : Int) - (1 : Int) - k) < List.length o) then bif isD PR (9 : TypeId) (D.nth o (Int.toNat ((↑n : Int) - (1 : Int) - k))) then bif decide ((-9223372036854775808 : Int) ≤ k + (1 : Int) ∧ k + (1 : Int) ≤ (9223372036854775807 : Int)) then post (PX.normal, S.mk 42 [(0, P.ref 0 0 0), (5, P.sl 5 0 n), (7, P.sl 6 0 n), (19, P.sl 5 0 n), (20, P.d (D.int IntKind.i64 (↑n : Int))), (21, P.d (D.int IntKind.i64 (k + (1 : Int))))] [(0, En.mk 0 (some 0) (Obj.box 61 [P.mp 1 0, P.mp 2 0, P.mp 3 0, P.mp 4 0])), (1, En.mk 0 (some 1) (Obj.map 41 f1 c1 false)), (2, En.mk 0 (some 2) (Obj.map 41 f2 c2 z2)), (3, En.mk 0 (some 3) (Obj.map 41 f3 c3 z3)), (4, En.mk 0 (some 4) (Obj.map 41 f4 c4 false)), (5, En.mk 0 none (Obj.arr 41 false (List.map ixD w))), (6, En.mk 0 none (Obj.arr 9 false (List.set o (Int.toNat ((↑n : Int) - (1 : Int) - k)) (D.withCells (D.str (D.sVal (D.nth o (Int.toNat ((↑n : Int) - (1 : Int) - k))))) [D.str (D.sVal (getO (f4 (D.agg [D.int IntKind.i64 (D.iVal (D.cAt (D.nth (List.map ixD w) (Int.toNat k)) 0)), D.int IntKind.i64 (D.iVal (D.cAt (D.nth (List.map ixD w) (Int.toNat k)) 1)), D.int IntKind.i64 (D.iVal (D.cAt (D.nth (List.map ixD w) (Int.toNat k)) 2))])) (D.str [])))]))))]) else False else False else False else False else False else False else False else False else False else False else post (PX.exit 0, S.mk 42 [(0, P.ref 0 0 0), (7, P.sl 5 0 n)] [(0, En.mk 0 (some 0) (Obj.box 61 [P.mp 1 0, P.mp 2 0, P.mp 3 0, P.mp 4 0])), (1, En.mk 0 (some 1) (Obj.map 41 f1 c1 false)), (2, En.mk 0 (some 2) (Obj.map 41 f2 c2 z2)), (3, En.mk 0 (some 3) (Obj.map 41 f3 c3 z3)), (4, En.mk 0 (some 4) (Obj.map 41 f4 c4 false)), (5, En.mk 0 none (Obj.arr 9 false o))])) = (roundL [] [] 29 4 (pt4 w n k o f1 f2 f3 f4 c1 c2 c3 c4 z2 z3)) post := by kernel_rfl
def vcPt_0  : P := P.ref 0 0 0
def vcPt_1  : Nat × En := (0, En.mk 0 (some 0) (Obj.box (61 : TypeId) [P.mp 1 0, P.mp 2 0, P.mp 3 0, P.mp 4 0]))
def vcPt_2 (v0 : List Pl) : Nat × En := (1, En.mk 0 (some 1) (Obj.map 41 (fun (x : D) => match x with | D.agg [D.int IntKind.i64 a, D.int IntKind.i64 b, D.int IntKind.i64 c] => Option.map plD (atPl v0 (a, b, c)) | _ => none) (↑(List.length v0) : Int) false))
def vcPt_3 (v3 : D → Option D) (v6 : Int) (v9 : Bool) : Nat × En := (2, En.mk 0 (some 2) (Obj.map 41 v3 v6 v9))
def vcPt_4 (v4 : D → Option D) (v7 : Int) (v10 : Bool) : Nat × En := (3, En.mk 0 (some 3) (Obj.map 41 v4 v7 v10))
def vcPt_5 (v5 : D → Option D) (v8 : Int) : Nat × En := (4, En.mk 0 (some 4) (Obj.map 41 v5 v8 false))
def vcPt_6 (v21 : List Id3) : Int := (16 : Int) * (↑(List.length v21) : Int)
def vcPt_7  : Nat × P := (0, vcPt_0)
def vcPt_8 (v21 : List Id3) : P := P.sl 5 0 (List.length v21)
def vcPt_9  : List (Nat × P) := [(21, P.d (D.int IntKind.i64 (0 : Int)))]
def vcPt_10 (v23 : List Id3) : P := P.sl 5 0 (List.length v23)
def vcPt_11 (v26 : D → Option D) (v30 : Int) : Nat × En := (1, En.mk 0 (some 1) (Obj.map 41 v26 v30 false))
def vcPt_12 (v27 : D → Option D) (v31 : Int) (v34 : Bool) : Nat × En := (2, En.mk 0 (some 2) (Obj.map 41 v27 v31 v34))
def vcPt_13 (v28 : D → Option D) (v32 : Int) (v35 : Bool) : Nat × En := (3, En.mk 0 (some 3) (Obj.map 41 v28 v32 v35))
def vcPt_14 (v29 : D → Option D) (v33 : Int) : Nat × En := (4, En.mk 0 (some 4) (Obj.map 41 v29 v33 false))
def vcPt_15  : P := P.sl 5 0 0
def vcPt_16 (v40 : List Id3) : P := P.sl 5 0 (List.length v40)
def vcPt_17 (v42 : D → Option D) (v46 : Int) : Nat × En := (1, En.mk 0 (some 1) (Obj.map 41 v42 v46 false))
def vcPt_18 (v43 : D → Option D) (v47 : Int) (v50 : Bool) : Nat × En := (2, En.mk 0 (some 2) (Obj.map 41 v43 v47 v50))
def vcPt_19 (v44 : D → Option D) (v48 : Int) (v51 : Bool) : Nat × En := (3, En.mk 0 (some 3) (Obj.map 41 v44 v48 v51))
def vcPt_20 (v45 : D → Option D) (v49 : Int) : Nat × En := (4, En.mk 0 (some 4) (Obj.map 41 v45 v49 false))
theorem vcPt (T : List Pl) (x : Id3) (f2 f3 f4 : D → Option D) (c1 c2 c3 c4 : Int) (z2 z3 : Bool) (post : P × List (Nat × En) → Prop) : (∃ (T_1 : List Pl), ∃ (x_1 : Id3), ∃ (f2_1 : D → Option D), ∃ (f3_1 : D → Option D), ∃ (f4_1 : D → Option D), ∃ (c2_1 : Int), ∃ (c3_1 : Int), ∃ (c4_1 : Int), ∃ (z2_1 : Bool), ∃ (z3_1 : Bool), [vcPt_0, P.d (D.agg [D.int IntKind.i64 (Prod.fst x), D.int IntKind.i64 (Prod.fst (Prod.snd x)), D.int IntKind.i64 (Prod.snd (Prod.snd x))])] = [vcPt_0, P.d (D.agg [D.int IntKind.i64 (Prod.fst x_1), D.int IntKind.i64 (Prod.fst (Prod.snd x_1)), D.int IntKind.i64 (Prod.snd (Prod.snd x_1))])] ∧ [vcPt_1, (1, En.mk 0 (some 1) (Obj.map 41 (fun (x : D) => match x with | D.agg [D.int IntKind.i64 a, D.int IntKind.i64 b, D.int IntKind.i64 c] => Option.map plD (atPl T (a, b, c)) | _ => none) c1 false)), (2, En.mk 0 (some 2) (Obj.map 41 f2 c2 z2)), (3, En.mk 0 (some 3) (Obj.map 41 f3 c3 z3)), (4, En.mk 0 (some 4) (Obj.map 41 f4 c4 false))] = [vcPt_1, vcPt_2 T_1, vcPt_3 f2_1 c2_1 z2_1, vcPt_4 f3_1 c3_1 z3_1, vcPt_5 f4_1 c4_1] ∧ List.length T_1 ≤ 1000000 ∧ (∀ (l : List Id3), wy T_1 x_1 = some l → bif decide ((0 : Int) ≤ (↑(List.length l) : Int) ∧ (↑(List.length l) : Int) ≤ (↑(List.length l) : Int) ∧ (↑(List.length l) : Int) ≤ (9223372036854775807 : Int) ∧ vcPt_6 l ≤ (281474976710656 : Int)) then ∃ (w : List Id3), ∃ (nm : Id3 → List UInt8), ∃ (f1 : D → Option D), ∃ (f2 : D → Option D), ∃ (f3 : D → Option D), ∃ (f4 : D → Option D), ∃ (c1 : Int), ∃ (c2 : Int), ∃ (c3 : Int), ∃ (c4 : Int), ∃ (z2 : Bool), ∃ (z3 : Bool), S.mk 42 (vcPt_7 :: (5, vcPt_8 l) :: (7, P.sl 6 0 (List.length l)) :: (19, vcPt_8 l) :: (20, P.d (D.int IntKind.i64 (↑(List.length l) : Int))) :: vcPt_9) [vcPt_1, vcPt_2 T_1, vcPt_3 f2_1 c2_1 z2_1, vcPt_4 f3_1 c3_1 z3_1, vcPt_5 f4_1 c4_1, (5, En.mk 0 none (Obj.arr (41 : TypeId) false (List.map ixD l))), (6, En.mk 0 none (Obj.arr (9 : TypeId) false (List.replicate (List.length l) (D.str []))))] = S.mk 42 (vcPt_7 :: (5, vcPt_10 w) :: (7, P.sl 6 0 (List.length w)) :: (19, vcPt_10 w) :: (20, P.d (D.int IntKind.i64 (↑(List.length w) : Int))) :: vcPt_9) [vcPt_1, vcPt_11 f1 c1, vcPt_12 f2 c2 z2, vcPt_13 f3 c3 z3, vcPt_14 f4 c4, (5, En.mk 0 none (Obj.arr (41 : TypeId) false (List.map ixD w))), (6, En.mk 0 none (Obj.arr (9 : TypeId) false (List.replicate (List.length w) (D.str []))))] ∧ (List.length w ≤ 1000000 ∧ ∀ (u : Id3), u ∈ w → f4 (ixD u) = some (D.str (nm u))) ∧ ∃ (l : List (List UInt8)), [P.d (D.sl 1 (List.take (List.length w) (List.map D.str (List.map nm (List.reverse w)))))] = [P.d (D.sl 1 (List.map D.str l))] ∧ EqR [] [] ∧ sumL l ≤ 2000000 ∧ post (P.d (D.str (joinP l)), [vcPt_1, vcPt_11 f1 c1, vcPt_12 f2 c2 z2, vcPt_13 f3 c3 z3, vcPt_14 f4 c4]) else False) ∧ (wy T_1 x_1 = none → ∃ (w : List Id3), ∃ (nm : Id3 → List UInt8), ∃ (f1 : D → Option D), ∃ (f2 : D → Option D), ∃ (f3 : D → Option D), ∃ (f4 : D → Option D), ∃ (c1 : Int), ∃ (c2 : Int), ∃ (c3 : Int), ∃ (c4 : Int), ∃ (z2 : Bool), ∃ (z3 : Bool), S.mk 42 (vcPt_7 :: (5, vcPt_15) :: (7, P.sl 6 0 0) :: (19, vcPt_15) :: (20, P.d (D.int IntKind.i64 (0 : Int))) :: vcPt_9) [vcPt_1, vcPt_2 T_1, vcPt_3 f2_1 c2_1 z2_1, vcPt_4 f3_1 c3_1 z3_1, vcPt_5 f4_1 c4_1, (5, En.mk 0 none (Obj.arr (41 : TypeId) false [])), (6, En.mk 0 none (Obj.arr (9 : TypeId) false []))] = S.mk 42 (vcPt_7 :: (5, vcPt_16 w) :: (7, P.sl 6 0 (List.length w)) :: (19, vcPt_16 w) :: (20, P.d (D.int IntKind.i64 (↑(List.length w) : Int))) :: vcPt_9) [vcPt_1, vcPt_17 f1 c1, vcPt_18 f2 c2 z2, vcPt_19 f3 c3 z3, vcPt_20 f4 c4, (5, En.mk 0 none (Obj.arr (41 : TypeId) false (List.map ixD w))), (6, En.mk 0 none (Obj.arr (9 : TypeId) false (List.replicate (List.length w) (D.str []))))] ∧ (List.length w ≤ 1000000 ∧ ∀ (u : Id3), u ∈ w → f4 (ixD u) = some (D.str (nm u))) ∧ ∃ (l : List (List UInt8)), [P.d (D.sl 1 (List.take (List.length w) (List.map D.str (List.map nm (List.reverse w)))))] = [P.d (D.sl 1 (List.map D.str l))] ∧ EqR [] [] ∧ sumL l ≤ 2000000 ∧ post (P.d (D.str (joinP l)), [vcPt_1, vcPt_17 f1 c1, vcPt_18 f2 c2 z2, vcPt_19 f3 c3 z3, vcPt_20 f4 c4]))) = (bodyF [(49, hWay), (52, hJoinP)] [(4, loopHook (kpF 29 4) gPt4)] 29 [.ref 0 0 0, .d (ixD x)] (nodT (plM T) f2 f3 f4 c1 c2 c3 c4 z2 z3)) post := by kernel_rfl
def hPath : KF1 := fun ps R post => ∃ T x w nm f2 f3 f4 c2 c3 c4 z2 z3, ps = [.ref 0 0 0, .d (ixD x)] ∧ R = nodT (plM T) f2 f3 f4 (T.length : Int) c2 c3 c4 z2 z3 ∧ (T.length ≤ 1000000 ∧ Up T x w ∧ (∀ u ∈ w, f4 (ixD u) = some (.str (nm u))) ∧ sumL (w.reverse.map nm) ≤ 2000000) ∧
  post (sD (joinR (w.reverse.map nm)), nodT (plM T) f2 f3 f4 (T.length : Int) c2 c3 c4 z2 z3)
end Pi

/- Tree: name, path. -/
namespace Pi
open Go Go.Proofs
set_option maxRecDepth 100000
theorem joinR_P' {l : List (List UInt8)} (h : l ≠ []) : joinP l = joinR l := (joinR_P l h).symm
theorem set_mid (m : Nat) (a b : List (List UInt8)) (v : List UInt8) (h : a.length = m) (x : List UInt8) : ((a ++ x :: b).map D.str).set m (.str v) = (a ++ v :: b).map D.str := by
  subst h
  simp
section
variable {X : XF}
theorem loopPt4 : LD X 29 4 (loopHook (kpF 29 4) gPt4) := LD.par (H := []) (hk := []) (by kernel_rfl) (by kernel_rfl) .nil .nil
  (A := List Id3 × (Id3 → List UInt8) × (D → Option D) × (D → Option D) × (D → Option D) × (D → Option D) × Int × Int × Int × Int × Bool × Bool) (B := Int)
  (fun ⟨w, nm, f1, f2, f3, f4, c1, c2, c3, c4, z2, z3⟩ k => pt4 w w.length k ((List.replicate (w.length - k.toNat) [] ++ (w.take k.toNat).reverse.map nm).map D.str) f1 f2 f3 f4 c1 c2 c3 c4 z2 z3)
  (fun ⟨w, nm, _, _, _, f4, _⟩ k => w.length ≤ 1000000 ∧ 0 ≤ k ∧ k ≤ w.length ∧ ∀ u ∈ w, f4 (ixD u) = some (.str (nm u)))
  (fun ⟨w, _⟩ k => (w.length - k).toNat)
  (fun ⟨w, nm, f1, f2, f3, f4, c1, c2, c3, c4, z2, z3⟩ x => x = (.exit 0, ⟨42, [(0, .ref 0 0 0), (7, .sl 5 0 w.length)], nodT f1 f2 f3 f4 c1 c2 c3 c4 z2 z3 ++ [(5, ⟨0, none, .arr 9 false ((w.reverse.map nm).map D.str)⟩)]⟩))
  (by
    rintro ⟨w, nm, f1, f2, f3, f4, c1, c2, c3, c4, z2, z3⟩ k ⟨hm, h0, hk, hf⟩
    dsimp only at *
    rw [← vcPt4]
    refine condP (fun h => ?_) fun h => ?_
    · have hk' : k.toNat < w.length := by omega
      rw [ix_nth hk']
      have hu : w.getD k.toNat (0, 0, 0) ∈ w := by
        rw [List.getD_eq_getElem?_getD, List.getElem?_eq_getElem hk']
        exact List.getElem_mem hk'
      have hf' := hf _ hu
      generalize hge : w.getD k.toNat (0, 0, 0) = u at hf' hu
      have hf2 : f4 (D.agg [D.int IntKind.i64 (D.iVal (D.cAt (ixD u) 0)), D.int IntKind.i64 (D.iVal (D.cAt (ixD u) 1)), D.int IntKind.i64 (D.iVal (D.cAt (ixD u) 2))]) = some (.str (nm u)) := hf'
      simp only [hf2]
      have em : ((w.length : Int) - 1 - k).toNat = w.length - 1 - k.toNat := by omega
      rw [em]
      have er : w.length - k.toNat = (w.length - 1 - k.toNat) + 1 := by omega
      have eo : (List.replicate (w.length - k.toNat) [] ++ (w.take k.toNat).reverse.map nm) = List.replicate (w.length - 1 - k.toNat) [] ++ [] :: (w.take k.toNat).reverse.map nm := by
        rw [er, List.replicate_succ']
        simp
      rw [eo]
      refine oblP ⟨h0, h⟩ (oblI (decT (by simpa using hk')) (oblI (isIx u) (oblP ⟨by omega, by omega⟩ (oblP ⟨by omega, by omega⟩ (oblI (isDs _) (oblP ⟨by omega, by omega⟩ (oblI (decT (by simp <;> omega)) (oblI ?_ (oblI (incI (by omega) (by omega)) ?_)))))))))
      · rw [tx_nth (by simp <;> omega)]
        exact isDs _
      · refine ⟨((w.length : Int) - (k + 1)).toNat, by omega, k + 1, ?_, ⟨hm, by omega, by omega, hf⟩, rfl⟩
        have et : List.replicate (w.length - (k + 1).toNat) [] ++ (w.take (k + 1).toNat).reverse.map nm = List.replicate (w.length - 1 - k.toNat) [] ++ nm u :: (w.take k.toNat).reverse.map nm := by
          have e1 : (k + 1).toNat = k.toNat + 1 := by omega
          rw [e1, List.take_add_one, List.getElem?_eq_getElem hk']
          have : w[k.toNat] = u := by
            rw [← hge, List.getD_eq_getElem?_getD, List.getElem?_eq_getElem hk']
            rfl
          rw [this]
          simp
          omega
        have := set_mid (w.length - 1 - k.toNat) (List.replicate (w.length - 1 - k.toNat) []) ((w.take k.toNat).reverse.map nm) (nm u) (by simp) []
        show _ = pt4 w w.length (k + 1) _ f1 f2 f3 f4 c1 c2 c3 c4 z2 z3
        rw [et, ← this, tx_nth (by simp <;> omega)]
        rfl
    · have : k.toNat = w.length := by omega
      rw [this]
      simp only [Nat.sub_self, List.replicate_zero, List.nil_append, List.take_length]
      rfl)
  (by
    rintro s post ⟨w, nm, f1, f2, f3, f4, c1, c2, c3, c4, z2, z3, rfl, ⟨hm, hf⟩, hp⟩
    refine ⟨(w, nm, f1, f2, f3, f4, c1, c2, c3, c4, z2, z3), 0, ?_, ⟨hm, by simp, by simp, hf⟩, ?_⟩
    · simp
    · rintro x rfl
      exact hp)
theorem okPath : FD X 29 hPath := FD.mk (H := [(49, hWay), (52, hJoinP)]) (hk := [(4, loopHook (kpF 29 4) gPt4)]) (by kernel_rfl) (.cons okWay (.cons okJoin .nil)) (.cons loopPt4 .nil) (by
  intro ps R post hh
  obtain ⟨T, x, w, nm, f2, f3, f4, c2, c3, c4, z2, z3, h01, h02, ⟨hm, hw, hf, hs⟩, hp⟩ := hh
  subst h01
  have key : ∀ c1 : Int, c1 = (T.length : Int) → bodyF [(49, hWay), (52, hJoinP)] [(4, loopHook (kpF 29 4) gPt4)] 29 [.ref 0 0 0, .d (ixD x)] (nodT (plM T) f2 f3 f4 c1 c2 c3 c4 z2 z3) post := by
    intro c1 hc
    (rw [← vcPt]; delta vcPt_0 vcPt_1 vcPt_2 vcPt_3 vcPt_4 vcPt_5 vcPt_6 vcPt_7 vcPt_8 vcPt_9 vcPt_10 vcPt_11 vcPt_12 vcPt_13 vcPt_14 vcPt_15 vcPt_16 vcPt_17 vcPt_18 vcPt_19 vcPt_20)
    have hl := hw.len
    refine ⟨T, x, f2, f3, f4, c2, c3, c4, z2, z3, rfl, by rw [hc], hm, fun l hl' => ?_, fun h => by rw [wy_iff.2 hw] at h; cases h⟩
    rw [wy_iff.2 hw] at hl'
    cases hl'
    refine oblP ⟨by omega, by omega, by omega, by omega⟩ ⟨w, nm, plM T, f2, f3, f4, _, c2, c3, c4, z2, z3, rfl, ⟨by omega, hf⟩, w.reverse.map nm, ?_, rfl, hs, ?_⟩
    · rw [List.take_of_length_le (by simp)]
    · rw [joinR_P' (by obtain ⟨r, rfl⟩ := hw.hd; simp)]
      exact hp
  rw [h02]
  clear hp h02
  generalize hc : (T.length : Int) = c1
  exact key c1 hc.symm)
end
end Pi

/- Tree: who is ahead of whom. -/
namespace Pi
open Go
section
variable {T : List Pl} {live : List Id3}
/-- The seen ones, rising. -/
def riseX (T : List Pl) (live : List Id3) : List Id3 := sortI ltX (seenI T live)
theorem rise_mem {x : Id3} : x ∈ riseX T live ↔ marked T live x = true := by
  unfold riseX
  rw [(sortI_perm _).mem_iff, seenI_mem]
theorem rise_len : (riseX T live).length = (seenI T live).length := (sortI_perm _).length_eq
theorem rise_nodup (hu : Uq T) : (riseX T live).Nodup := by
  unfold riseX
  rw [(sortI_perm _).nodup_iff]
  exact seenI_nodup hu live
theorem rise_lt (hu : Uq T) : (riseX T live).Pairwise fun x y => ltX x y = true := by
  refine ((sortI_pw lin_X (seenI T live)).and (rise_nodup (live := live) hu)).imp ?_
  intro x y h
  cases hl : ltX x y with
  | true => rfl
  | false => exact absurd (lin_X.tot _ _ hl h.1) h.2
/-- Places that have one's spot. -/
def spotB (p q : Pl) : Bool := decide (q.2.1 = p.2.1) && q.2.2.1 == p.2.2.1
def cntP (l : List Pl) (p : Pl) : Nat := l.countP (spotB p)
def plX (T : List Pl) (x : Id3) : Pl := (atPl T x).getD ((0, 0, 0), (0, 0, 0), [], false)
theorem plX_at {x : Id3} (h : marked T live x = true) : atPl T x = some (plX T x) := by
  obtain ⟨p, hp⟩ := marked_at h
  unfold plX
  rw [hp]
  rfl
theorem cnt_pos (hT : Rt T) {k : Nat} {x : Id3} (hx : (riseX T live)[k]? = some x) : 0 < cntP (((riseX T live).take k).map (plX T)) (plX T x) ↔ (seenL T live).any (fun q => decide (q.2.1 = (plX T x).2.1) && (q.2.2.1 == (plX T x).2.2.1) && ltX q.1 (plX T x).1) = true := by
  have hk : k < (riseX T live).length := (List.getElem?_eq_some_iff.1 hx).1
  have hxk : (riseX T live)[k] = x := (List.getElem?_eq_some_iff.1 hx).2
  have hmx : marked T live x = true := rise_mem.1 (List.mem_of_getElem? hx)
  have hpx : (plX T x).1 = x := (atPl_mem (plX_at hmx)).2
  have hlt := List.pairwise_iff_getElem.1 (rise_lt (live := live) hT.1)
  unfold cntP
  rw [List.countP_pos_iff, List.any_eq_true]
  constructor
  · rintro ⟨q, hq, hs⟩
    obtain ⟨y, hy, rfl⟩ := List.mem_map.1 hq
    obtain ⟨j, hj, hjy⟩ := List.getElem_of_mem hy
    rw [List.getElem_take] at hjy
    rw [List.length_take] at hj
    have hmy : marked T live y = true := rise_mem.1 (List.mem_of_mem_take hy)
    have hpy : (plX T y).1 = y := (atPl_mem (plX_at hmy)).2
    refine ⟨plX T y, seen_mem hmy (plX_at hmy), ?_⟩
    have := hlt j k (by omega) hk (by omega)
    rw [hjy, hxk] at this
    rw [hpx, hpy, this, Bool.and_true]
    exact hs
  · rintro ⟨q, hq, hs⟩
    simp only [Bool.and_eq_true] at hs
    obtain ⟨hqT, hqm⟩ := seen_pl hq
    have hqa : plX T q.1 = q := by
      unfold plX
      rw [atPl_of hT.1 hqT]
      rfl
    obtain ⟨j, hj, hjq⟩ := List.getElem_of_mem (rise_mem.2 hqm)
    have hjk : j < k := by
      rw [hpx, ← hxk, ← hjq] at hs
      rcases Nat.lt_trichotomy j k with h | h | h
      · exact h
      · subst h; rw [lin_X.irr] at hs; cases hs.2
      · have := lin_X.asymm (hlt k j hk hj h); rw [hs.2] at this; cases this
    refine ⟨q, List.mem_map.2 ⟨q.1, ?_, hqa⟩, ?_⟩
    · rw [← hjq]
      exact List.mem_take_iff_getElem.2 ⟨j, by omega, rfl⟩
    · unfold spotB
      rw [Bool.and_eq_true]
      exact hs.1
theorem nmX_cnt (hT : Rt T) {k : Nat} {x : Id3} (hx : (riseX T live)[k]? = some x) : nmX T live x = if 0 < cntP (((riseX T live).take k).map (plX T)) (plX T x) then (clashP (plX T x).2.2.1 (plX T x).1.1 (plX T x).1.2.1 (plX T x).1.2.2).1 else (plX T x).2.2.1 := by
  have hmx : marked T live x = true := rise_mem.1 (List.mem_of_getElem? hx)
  unfold nmX
  rw [plX_at hmx]
  simp only [nmP]
  by_cases h : 0 < cntP (((riseX T live).take k).map (plX T)) (plX T x)
  · rw [if_pos h, if_pos ((cnt_pos hT hx).1 h)]
  · rw [if_neg h, if_neg (fun h' => h ((cnt_pos hT hx).2 h'))]
/-! counts, as data -/
def hadM (l : List Pl) : D → Option D
  | .agg [.int .i64 a, .int .i64 b, .int .i64 c, .str s] => if 0 < cntP l ((0, 0, 0), (a, b, c), s, false) then some (.int .i64 (cntP l ((0, 0, 0), (a, b, c), s, false) : Int)) else none
  | _ => none
def spD (p : Pl) : D := .agg [.int .i64 p.2.1.1, .int .i64 p.2.1.2.1, .int .i64 p.2.1.2.2, .str p.2.2.1]
theorem hadM_sp (l : List Pl) (p : Pl) : hadM l (spD p) = if 0 < cntP l p then some (.int .i64 (cntP l p : Int)) else none := rfl
theorem hadM_get (l : List Pl) (p : Pl) : (hadM l (spD p)).getD (.int .i64 0) = .int .i64 (cntP l p : Int) := by
  rw [hadM_sp]
  split
  · rfl
  · have : cntP l p = 0 := by omega
    rw [this]
    rfl
theorem cntP_add (l : List Pl) (p q : Pl) : cntP (l ++ [p]) q = cntP l q + if spotB q p = true then 1 else 0 := by
  unfold cntP
  rw [List.countP_append]
  simp [List.countP_cons]
end
end Pi

/- Tree: name. -/
namespace Pi
open Go Go.Proofs
set_option maxRecDepth 100000
theorem upd_upd (k v u : D) (g : D → Option D) : updD k v (updD k u g) = updD k v g := by
  funext d
  unfold updD
  cases D.eqB k d <;> rfl
theorem upd_at (k v : D) (g : D → Option D) : updD k v g k = some v := by
  unfold updD
  rw [(D.eqB_iff k k).2 rfl]
  rfl
theorem hadM_upd (l : List Pl) (p : Pl) : updD (spD p) (.int .i64 ((cntP l p : Int) + 1)) (hadM l) = hadM (l ++ [p]) := by
  funext d
  cases hd : D.eqB (spD p) d with
  | true =>
    have := (D.eqB_iff _ _).1 hd
    subst this
    rw [upd_at, hadM_sp, cntP_add, if_pos (show spotB p p = true by simp [spotB]), if_pos (by omega)]
    simp
  | false =>
    have hne : spD p ≠ d := fun e => by rw [(D.eqB_iff _ _).2 e] at hd; cases hd
    have e0 : updD (spD p) (.int .i64 ((cntP l p : Int) + 1)) (hadM l) d = hadM l d := by unfold updD; rw [hd]; rfl
    rw [e0]
    unfold hadM
    split
    · rename_i a b c s
      have : cntP (l ++ [p]) ((0, 0, 0), (a, b, c), s, false) = cntP l ((0, 0, 0), (a, b, c), s, false) := by
        rw [cntP_add, if_neg]
        · rfl
        · intro h
          simp only [spotB, Bool.and_eq_true, decide_eq_true_eq, beq_iff_eq] at h
          refine hne ?_
          unfold spD
          rw [h.1, h.2]
      rw [this]
    · rfl
theorem asM_upd {T : List Pl} {V L : List Id3} (x : Id3) : updD (ixD x) (.str (nmX T V x)) (asM T V L) = asM T V (L ++ [x]) := by
  refine mpD_upd D.str _ _ x (nmX T V x) (by simp) fun y hy => ?_
  simp [hy]
theorem asM_id (T : List Pl) (V L : List Id3) (x : Id3) : asM T V L (ixD x) = (if x ∈ L then some (nmX T V x) else none).map D.str := rfl
theorem isInt (n : Int) : isD PR 3 (.int .i64 n) = true := by kernel_rfl
section
variable {X : XF} {w0 : World} (hX : CFOK PR w0 X.cf)
include hX
theorem lnNm2 : LN w0 28 2 (loopHook (kpF 28 2) gNm2) := LN.par hX (H := [(51, hClash)]) (HN := []) (hk := []) drM (by kernel_rfl) (by kernel_rfl) (.cons okClash .nil) .nil .nil
  (A := List Pl × List Id3 × (D → Option D) × (D → Option D) × Int × Int × Int × Bool) (B := Int × Int)
  (fun ⟨T, V, f2, f3, c1, c2, c3, z2⟩ b => nm2 (riseX T V) (seenI T V).length b.1 (hadM (((riseX T V).take b.1.toNat).map (plX T))) b.2 T f2 f3 (asM T V ((riseX T V).take b.1.toNat)) c1 c2 c3 b.1 z2)
  (fun ⟨T, V, _⟩ b => T.length ≤ 1000000 ∧ Rt T ∧ 0 ≤ b.1 ∧ b.1 ≤ (riseX T V).length)
  (fun ⟨T, V, _⟩ b => ((riseX T V).length - b.1).toNat)
  (fun ⟨T, V, f2, f3, c1, c2, c3, z2⟩ x => x = (.exit 0, ⟨56, [(0, .ref 0 0 0)], nodT (plM T) f2 f3 (asM T V (seenI T V)) c1 c2 c3 ((seenI T V).length : Int) z2 true⟩))
  (by
    rintro ⟨T, V, f2, f3, c1, c2, c3, z2⟩ ⟨k, c⟩ ⟨hm, hT, h0, hk⟩
    dsimp only at *
    (rw [← vcNm2]; delta vcNm2_0 vcNm2_1 vcNm2_2 vcNm2_3 vcNm2_4 vcNm2_5 vcNm2_6 vcNm2_7 vcNm2_8 vcNm2_9 vcNm2_10 vcNm2_11 vcNm2_12 vcNm2_13 vcNm2_14 vcNm2_15 vcNm2_16 vcNm2_17 vcNm2_18 vcNm2_19 vcNm2_20 vcNm2_21 vcNm2_22 vcNm2_23 vcNm2_24 vcNm2_25 vcNm2_26 vcNm2_27 vcNm2_28)
    have hrl := rise_len (T := T) (live := V)
    have hsl : (seenI T V).length ≤ T.length := by
      unfold seenI seenL
      rw [List.length_map]
      exact List.length_filter_le _ _
    simp only [List.length_map]
    refine condP (fun h => ?_) fun h => ?_
    · have hk' : k.toNat < (riseX T V).length := by omega
      rw [ix_nth hk']
      have hx : (riseX T V)[k.toNat]? = some ((riseX T V).getD k.toNat (0, 0, 0)) := by
        rw [List.getD_eq_getElem?_getD, List.getElem?_eq_getElem hk']
        rfl
      generalize (riseX T V).getD k.toNat (0, 0, 0) = x at hx
      have hmx : marked T V x = true := rise_mem.1 (List.mem_of_getElem? hx)
      have hpx := plX_at hmx
      have hnm := nmX_cnt hT hx
      have hok := hT.2 _ (atPl_mem hpx).1
      have hx1 : (plX T x).1 = x := (atPl_mem hpx).2
      have htk : (riseX T V).take (k + 1).toNat = (riseX T V).take k.toNat ++ [x] := by
        rw [show (k + 1).toNat = k.toNat + 1 by omega, List.take_add_one, hx]
        rfl
      have hno : asM T V ((riseX T V).take k.toNat) (ixD x) = none := by
        rw [asM_id, if_neg]
        · rfl
        · intro hmem
          obtain ⟨j, hj, hjx⟩ := List.getElem_of_mem hmem
          rw [List.getElem_take] at hjx
          rw [List.length_take] at hj
          have hxk : (riseX T V)[k.toNat] = x := (List.getElem?_eq_some_iff.1 hx).2
          have := List.pairwise_iff_getElem.1 (rise_nodup (live := V) hT.1) j k.toNat (by omega) hk' (by omega)
          exact this (by rw [hjx, hxk])
      have hasu := asM_upd (T := T) (V := V) (L := (riseX T V).take k.toNat) x
      have hadu := hadM_upd (((riseX T V).take k.toNat).map (plX T)) (plX T x)
      have hadg := hadM_get (((riseX T V).take k.toNat).map (plX T)) (plX T x)
      have hcl : cntP (((riseX T V).take k.toNat).map (plX T)) (plX T x) ≤ 1000000 := by
        have h1 : cntP (((riseX T V).take k.toNat).map (plX T)) (plX T x) ≤ (((riseX T V).take k.toNat).map (plX T)).length := List.countP_le_length
        rw [List.length_map, List.length_take] at h1
        omega
      rw [show (((riseX T V).take k.toNat).map (plX T)) ++ [plX T x] = ((riseX T V).take (k + 1).toNat).map (plX T) by rw [htk]; simp] at hadu
      rw [← htk] at hasu
      generalize asM T V ((riseX T V).take k.toNat) = f4 at hno hasu
      generalize (((riseX T V).take k.toNat).map (plX T)) = l at hadu hadg hcl hnm
      generalize plX T x = p at *
      have hf : plM T (D.agg [D.int IntKind.i64 (D.iVal (D.cAt (ixD x) 0)), D.int IntKind.i64 (D.iVal (D.cAt (ixD x) 1)), D.int IntKind.i64 (D.iVal (D.cAt (ixD x) 2))]) = some (plD p) := by
        show plM T (ixD x) = _
        rw [plM_id, hpx]
        rfl
      simp only [Nat.zero_add, Nat.reduceAdd, hf]
      have hgo : getO (hadM l (spD p)) (.int .i64 0) = .int .i64 (cntP l p : Int) := hadg
      have hgt : getO (updD (spD p) (.int .i64 (D.iVal (getO (hadM l (spD p)) (.int .i64 0)) + 1)) (updD (spD p) (getO (hadM l (spD p)) (.int .i64 0)) (hadM l)) (spD p)) (.int .i64 0) = .int .i64 ((cntP l p : Int) + 1) := by
        rw [upd_at, hgo]
        rfl
      have hfun : updD (spD p) (.int .i64 (D.iVal (getO (hadM l (spD p)) (.int .i64 0)) + 1)) (updD (spD p) (getO (hadM l (spD p)) (.int .i64 0)) (hadM l)) = hadM (((riseX T V).take (k + 1).toNat).map (plX T)) := by
        rw [upd_upd, hgo]
        exact hadu
      refine oblP ⟨h0, by omega⟩ (oblI (decT hk') (oblI (isIx x) (oblI (isPl p) (oblI ?_ (oblI ?_ (oblI ?_ (condI (fun hc => ?_) fun hc => ?_)))))))
      · show isD PR 3 (getO (hadM l (spD p)) (.int .i64 0)) = true
        rw [hgo]
        exact isInt _
      · show decide ((-9223372036854775808 : Int) ≤ D.iVal (getO (hadM l (spD p)) (.int .i64 0)) + 1 ∧ D.iVal (getO (hadM l (spD p)) (.int .i64 0)) + 1 ≤ 9223372036854775807) = true
        rw [hgo]
        exact decT (show (-9223372036854775808 : Int) ≤ (cntP l p : Int) + 1 ∧ (cntP l p : Int) + 1 ≤ 9223372036854775807 from ⟨by omega, by omega⟩)
      · show isD PR 3 (getO (updD (spD p) (.int .i64 (D.iVal (getO (hadM l (spD p)) (.int .i64 0)) + 1)) (updD (spD p) (getO (hadM l (spD p)) (.int .i64 0)) (hadM l)) (spD p)) (.int .i64 0)) = true
        rw [hgt]
        exact isInt _
      · have hc' : decide (D.iVal (getO (updD (spD p) (.int .i64 (D.iVal (getO (hadM l (spD p)) (.int .i64 0)) + 1)) (updD (spD p) (getO (hadM l (spD p)) (.int .i64 0)) (hadM l)) (spD p)) (.int .i64 0)) > 1) = true := hc
        rw [hgt] at hc'
        have hc2 : (cntP l p : Int) + 1 > 1 := of_decide_eq_true hc'
        rw [if_pos (by omega)] at hnm
        refine ⟨p.2.2.1, x.1, x.2.1, x.2.2, rfl, rfl, oblI (incI (by omega) (by omega)) ⟨((riseX T V).length - (k + 1)).toNat, by omega, (k + 1, bif (hadM l (spD p)).isSome then c else c + 1), ?_, ⟨hm, hT, by simp only; omega, by simp only; omega⟩, rfl⟩⟩
        simp only
        rw [hx1] at hnm
        have hcnt : (k + 1 : Int) = bif (updD (ixD x) (.str p.2.2.1) f4 (ixD x)).isSome then (bif (f4 (ixD x)).isSome then k else k + 1) else (bif (f4 (ixD x)).isSome then k else k + 1) + 1 := by
          rw [upd_at, hno]
          rfl
        have goal : ∀ c4' : Int, c4' = k + 1 → nm2 (riseX T V) (seenI T V).length (k + 1) (updD (spD p) (.int .i64 (D.iVal (getO (hadM l (spD p)) (.int .i64 0)) + 1)) (updD (spD p) (getO (hadM l (spD p)) (.int .i64 0)) (hadM l))) (bif (hadM l (spD p)).isSome then c else c + 1) T f2 f3 (updD (ixD x) (.str (clashP p.2.2.1 x.1 x.2.1 x.2.2).1) (updD (ixD x) (.str p.2.2.1) f4)) c1 c2 c3 c4' z2 = nm2 (riseX T V) (seenI T V).length (k + 1) (updD (spD p) (.int .i64 (D.iVal (getO (hadM l (spD p)) (.int .i64 0)) + 1)) (updD (spD p) (getO (hadM l (spD p)) (.int .i64 0)) (hadM l))) (bif (hadM l (spD p)).isSome then c else c + 1) T f2 f3 (updD (ixD x) (.str (clashP p.2.2.1 x.1 x.2.1 x.2.2).1) (updD (ixD x) (.str p.2.2.1) f4)) c1 c2 c3 (k + 1) z2 := fun c4' h => by rw [h]
        exact (goal _ hcnt.symm).trans (by rw [hfun, upd_upd, ← hnm, hasu])
      · have hc' : decide (D.iVal (getO (updD (spD p) (.int .i64 (D.iVal (getO (hadM l (spD p)) (.int .i64 0)) + 1)) (updD (spD p) (getO (hadM l (spD p)) (.int .i64 0)) (hadM l)) (spD p)) (.int .i64 0)) > 1) = false := hc
        rw [hgt] at hc'
        have hc2 : ¬ (cntP l p : Int) + 1 > 1 := of_decide_eq_false hc'
        rw [if_neg (by omega)] at hnm
        refine oblI (incI (by omega) (by omega)) ⟨((riseX T V).length - (k + 1)).toNat, by omega, (k + 1, bif (hadM l (spD p)).isSome then c else c + 1), ?_, ⟨hm, hT, by simp only; omega, by simp only; omega⟩, rfl⟩
        simp only
        have hcnt : (bif (f4 (ixD x)).isSome then k else k + 1 : Int) = k + 1 := by rw [hno]; rfl
        have goal : ∀ c4' : Int, c4' = k + 1 → nm2 (riseX T V) (seenI T V).length (k + 1) (updD (spD p) (.int .i64 (D.iVal (getO (hadM l (spD p)) (.int .i64 0)) + 1)) (updD (spD p) (getO (hadM l (spD p)) (.int .i64 0)) (hadM l))) (bif (hadM l (spD p)).isSome then c else c + 1) T f2 f3 (updD (ixD x) (.str p.2.2.1) f4) c1 c2 c3 c4' z2 = nm2 (riseX T V) (seenI T V).length (k + 1) (updD (spD p) (.int .i64 (D.iVal (getO (hadM l (spD p)) (.int .i64 0)) + 1)) (updD (spD p) (getO (hadM l (spD p)) (.int .i64 0)) (hadM l))) (bif (hadM l (spD p)).isSome then c else c + 1) T f2 f3 (updD (ixD x) (.str p.2.2.1) f4) c1 c2 c3 (k + 1) z2 := fun c4' h => by rw [h]
        exact (goal _ hcnt).trans (by rw [hfun, ← hnm, hasu])
    · have e1 : (riseX T V).take k.toNat = riseX T V := List.take_of_length_le (by omega)
      rw [e1]
      have e2 : asM T V (riseX T V) = asM T V (seenI T V) := by
        unfold asM
        congr 1
        funext z
        simp only [rise_mem, seenI_mem]
      have e3 : k = ((seenI T V).length : Int) := by omega
      rw [e2, e3]
      rfl)
  (by
    rintro s post ⟨T, V, f2, f3, c1, c2, c3, z2, rfl, ⟨hm, hT⟩, hp⟩
    refine ⟨(T, V, f2, f3, c1, c2, c3, z2), (0, 0), ?_, ⟨hm, hT, by simp, by simp⟩, ?_⟩
    · have e1 : hadM [] = noM := by
        funext d
        unfold hadM
        split <;> rfl
      have e2 : asM T V [] = noM := by
        funext d
        show mpD _ _ d = none
        unfold mpD
        split <;> rfl
      show _ = nm2 (riseX T V) (seenI T V).length 0 (hadM []) 0 T f2 f3 (asM T V []) c1 c2 c3 0 z2
      rw [e1, e2]
      rfl
    · rintro x rfl
      exact hp)
theorem ndNames : ND w0 28 hNames := ND.mk hX (H := []) (HN := [(50, hRising)]) (hk := [(2, loopHook (kpF 28 2) gNm2)]) drM (by kernel_rfl) .nil (.cons (ndRising hX) .nil) (.cons (lnNm2 hX) .nil) (by
  intro ps R post hh
  obtain ⟨T, V, f2, c1, c2, z2, z3, rfl, rfl, ⟨hm, hT⟩, hp⟩ := hh
  (rw [← vcNmB]; delta vcNmB_0 vcNmB_1 vcNmB_2 vcNmB_3 vcNmB_4 vcNmB_5 vcNmB_6 vcNmB_7 vcNmB_8 vcNmB_9 vcNmB_10)
  have hsl : (seenI T V).length ≤ T.length := by
    unfold seenI seenL
    rw [List.length_map]
    exact List.length_filter_le _ _
  refine ⟨T, seenI T V, f2, noM, c1, c2, 0, z2, z3, rfl, rfl, ⟨by omega, seenI_nodup hT.1 V⟩, T, V, f2, inM (seenI T V), c1, c2, _, z2, ?_, ⟨hm, hT⟩, hp⟩
  rfl)
end
end Pi

/- Tree: Items: what its runs ask. -/
namespace Pi
open Go Go.Proofs
set_option maxRecDepth 100000
set_option maxHeartbeats 0
def itmD (x : It) : D := itD x.1.1 x.1.2.1 x.1.2.2 x.2.1 x.2.2.1 x.2.2.2
abbrev nodS (f1 f2 f3 f4 : D → Option D) (c1 c2 c3 c4 : Int) : List (Nat × En) :=
  [(0, ⟨0, none, .box 61 [.mp 1 0, .mp 2 0, .mp 3 0, .mp 4 0]⟩), (1, ⟨0, none, .map 41 f1 c1 false⟩), (2, ⟨0, none, .map 41 f2 c2 true⟩), (3, ⟨0, none, .map 41 f3 c3 true⟩), (4, ⟨0, none, .map 41 f4 c4 false⟩)]
abbrev it6 (T : List Pl) (V : List Id3) (f3 f4 : D → Option D) (o : List D) (n : Nat) (g : D → Option D) (e : Option (D × D)) (c1 c2 c3 c4 : Int) : S :=
  ⟨61, [(5, .ref 0 0 0), (6, .sl 5 0 n), (27, .ref 6 0 0)], nodS (plM T) (inM V) f3 f4 c1 c2 c3 c4 ++ [(5, ⟨0, none, .arr 43 false o⟩)] ++ itE 6 g e⟩
def gIt6 : S → K (PX × S) := fun s post => ∃ T V c2 c3 c4, s = it6 T V (inM (seenI T V)) (asM T V (seenI T V)) [] 0 (inM (seenI T V)) none (T.length : Int) c2 c3 c4 ∧ (T.length ≤ 1000 ∧ Rt T) ∧
  ∀ o : List It, o.Perm ((seenL T V).map (itemX T V)) → post (.exit 0, ⟨61, [(6, .sl 0 0 o.length)], [(0, ⟨0, none, .arr 43 false (o.map itmD)⟩)]⟩)
def vcIt6_0 (v0 : D) : D := D.int IntKind.i64 (D.iVal (D.cAt v0 0))
def vcIt6_1 (v0 : D) : D := D.agg [vcIt6_0 v0, D.int IntKind.i64 (D.iVal (D.cAt v0 1)), D.int IntKind.i64 (D.iVal (D.cAt v0 2))]
def vcIt6_2  : P := P.ref 0 0 0
def vcIt6_3  : Obj := Obj.box (61 : TypeId) [P.mp 1 0, P.mp 2 0, P.mp 3 0, P.mp 4 0]
def vcIt6_4  : Nat × En := (0, En.mk 0 (some 0) vcIt6_3)
def vcIt6_5 (T : List Pl) (c1 : Int) : Obj := Obj.map 41 (fun (x : D) => match x with | D.agg [D.int IntKind.i64 a, D.int IntKind.i64 b, D.int IntKind.i64 c] => Option.map plD (atPl T (a, b, c)) | _ => none) c1 false
def vcIt6_6 (v3 : List Pl) : Obj := Obj.map 41 (fun (x : D) => match x with | D.agg [D.int IntKind.i64 a, D.int IntKind.i64 b, D.int IntKind.i64 c] => Option.map plD (atPl v3 (a, b, c)) | _ => none) (↑(List.length v3) : Int) false
def vcIt6_7  : D := D.int IntKind.i64 (0 : Int)
def vcIt6_8 (v0 : D) (v3 : List Pl) : D := getO (plM v3 (vcIt6_1 v0)) (D.agg [vcIt6_7, vcIt6_7, vcIt6_7, vcIt6_7, vcIt6_7, vcIt6_7, D.str [], D.bool false])
def vcIt6_9 (V : List Id3) (v0 : D) (v3 : List Pl) (v5 : List Id3) (v7 : Id3 → List UInt8) : List D := [D.agg [vcIt6_0 v0, D.int IntKind.i64 (D.iVal (D.cAt v0 1)), D.int IntKind.i64 (D.iVal (D.cAt v0 2)), D.str (joinR (List.map v7 (List.reverse v5))), D.bool (D.bVal (D.cAt (vcIt6_8 v0 v3) 7)), D.bool !Option.isSome (inM V (vcIt6_1 v0))]]
def vcIt6_10 (V : List Id3) (n : Nat) (v0 : D) (v3 : List Pl) (v5 : List Id3) (v7 : Id3 → List UInt8) : Nat := n + List.length (vcIt6_9 V v0 v3 v5 v7)
def vcIt6_11  : Nat := 0 + 1
theorem vcIt6 (T : List Pl) (V : List Id3) (f3 f4 : D → Option D) (o : List D) (n : Nat) (g : D → Option D) (e : Option (D × D)) (c1 c2 c3 c4 : Int) (post : PX × S → Prop) : ((∀ (k x : D), g k = some x → bif isD PR (41 : TypeId) k then bif isD PR (62 : TypeId) x then bif isD PR (62 : TypeId) (getO (inM V (vcIt6_1 k)) (D.agg [])) then ∃ (T_1 : List Pl), ∃ (x : Id3), ∃ (w : List Id3), ∃ (nm : Id3 → List UInt8), ∃ (f2 : D → Option D), ∃ (f3_1 : D → Option D), ∃ (f4_1 : D → Option D), ∃ (c2_1 : Int), ∃ (c3_1 : Int), ∃ (c4_1 : Int), ∃ (z2 : Bool), ∃ (z3 : Bool), [vcIt6_2, P.d (vcIt6_1 k)] = [vcIt6_2, P.d (D.agg [D.int IntKind.i64 (Prod.fst x), D.int IntKind.i64 (Prod.fst (Prod.snd x)), D.int IntKind.i64 (Prod.snd (Prod.snd x))])] ∧ [vcIt6_4, (1, En.mk 0 (some 1) (vcIt6_5 T c1)), (2, En.mk 0 (some 2) (Obj.map 41 (fun (x : D) => match x with | D.agg [D.int IntKind.i64 a, D.int IntKind.i64 b, D.int IntKind.i64 c] => Option.map (fun (_ : Unit) => D.agg []) ((fun (x : Id3) => if x ∈ V then some () else none) (a, b, c)) | _ => none) c2 true)), (3, En.mk 0 (some 3) (Obj.map 41 f3 c3 true)), (4, En.mk 0 (some 4) (Obj.map 41 f4 c4 false))] = [vcIt6_4, (1, En.mk 0 (some 1) (vcIt6_6 T_1)), (2, En.mk 0 (some 2) (Obj.map 41 f2 c2_1 z2)), (3, En.mk 0 (some 3) (Obj.map 41 f3_1 c3_1 z3)), (4, En.mk 0 (some 4) (Obj.map 41 f4_1 c4_1 false))] ∧ (List.length T_1 ≤ 1000000 ∧ Up T_1 x w ∧ (∀ (u : Id3), u ∈ w → f4_1 (ixD u) = some (D.str (nm u))) ∧ sumL (List.map nm (List.reverse w)) ≤ 2000000) ∧ bif isD PR (47 : TypeId) (vcIt6_8 k T_1) then bif Nat.ble n (List.length o) && roomOk (vcIt6_10 V n k T_1 w nm) 48 then some (En.mk 0 none vcIt6_3) = some (En.mk 0 none vcIt6_3) ∧ some (En.mk 0 none vcIt6_3) = some (En.mk 0 none vcIt6_3) ∧ some (En.mk 0 none vcIt6_3) = some (En.mk 0 none vcIt6_3) ∧ some (En.mk 0 none (vcIt6_6 T_1)) = some (En.mk 0 none (vcIt6_5 T c1)) ∧ post (PX.normal, S.mk 61 [(5, vcIt6_2), (6, P.sl 5 0 (vcIt6_10 V n k T_1 w nm)), (27, P.ref 6 0 0)] [(0, En.mk 0 none vcIt6_3), (1, En.mk 0 none (vcIt6_6 T_1)), (2, En.mk 0 none (Obj.map 41 f2 c2_1 z2)), (3, En.mk 0 none (Obj.map 41 f3_1 c3_1 z3)), (4, En.mk 0 none (Obj.map 41 f4_1 c4_1 false)), (5, En.mk 0 none (Obj.arr (43 : TypeId) false (List.take n o ++ vcIt6_9 V k T_1 w nm))), (6, En.mk 0 none (Obj.iter 41 62 (fun (k' : D) => bif D.eqB (D.agg [vcIt6_0 k, D.int IntKind.i64 (D.iVal (D.cAt k vcIt6_11)), D.int IntKind.i64 (D.iVal (D.cAt k (vcIt6_11 + 1)))]) k' then none else g k') (some (vcIt6_1 k, D.agg []))))]) else False else False else False else False else False) ∧ ((∀ (k : D), g k = none) → post (PX.exit 0, S.mk 61 [(6, P.sl 0 0 n)] [(0, En.mk 0 none (Obj.arr (43 : TypeId) false o))]))) = (roundLN [(29, hPath)] [] [] 12 6 (it6 T V f3 f4 o n g e c1 c2 c3 c4)) post := by kernel_rfl
def cfP : D → D → Int
  | .agg [_, _, _, .str a, _, _], .agg [_, _, _, .str b, _, _] => cmpB a b
  | _, _ => 0
def hItems1 : KF1 := fun ps R post => ∃ a b : It, ps = [.d (itmD a), .d (itmD b)] ∧ R = [] ∧ post (iD (cmpB a.2.1 b.2.1), [])
theorem vcItems1 (a b : It) (post : P × List (Nat × En) → Prop) : (∃ (x : List UInt8), ∃ (y : List UInt8), [P.d (D.str (Prod.fst (Prod.snd a))), P.d (D.str (Prod.fst (Prod.snd b)))] = [P.d (D.str x), P.d (D.str y)] ∧ EqR [] [] ∧ post (P.d (D.int IntKind.i64 (cmpB x y)), [])) = (bodyF [(32, hCompareS)] [] 31 [.d (itmD a), .d (itmD b)] []) post := by kernel_rfl
def vcItems_0  : P := P.ref 0 0 0
def vcItems_1  : Obj := Obj.box (61 : TypeId) [P.mp 1 0, P.mp 2 0, P.mp 3 0, P.mp 4 0]
def vcItems_2  : Nat × En := (0, En.mk 0 (some 0) vcItems_1)
def vcItems_3  : Obj := Obj.map 41 (fun (_ : D) => none) (0 : Int) false
def vcItems_4  : Nat × En := (3, En.mk 0 (some 3) vcItems_3)
def vcItems_5  : List (Nat × En) := [(4, En.mk 0 (some 4) vcItems_3)]
def vcItems_6 (v2 : List Pl) : Nat × En := (1, En.mk 0 (some 1) (Obj.map 41 (fun (x : D) => match x with | D.agg [D.int IntKind.i64 a, D.int IntKind.i64 b, D.int IntKind.i64 c] => Option.map plD (atPl v2 (a, b, c)) | _ => none) (↑(List.length v2) : Int) false))
def vcItems_7 (v5 : D → Option D) (v6 : Int) : List (Nat × En) := [(4, En.mk 0 (some 4) (Obj.map 41 v5 v6 false))]
def vcItems_8 (v27 : List Pl) (v30 : Int) : Obj := Obj.map 41 (fun (x : D) => match x with | D.agg [D.int IntKind.i64 a, D.int IntKind.i64 b, D.int IntKind.i64 c] => Option.map plD (atPl v27 (a, b, c)) | _ => none) v30 false
def vcItems_9 (v27 : List Pl) (v28 : List Id3) : Int := (↑(List.length (seenI v27 v28)) : Int)
def vcItems_10 (v27 : List Pl) (v28 : List Id3) : Int := (48 : Int) * vcItems_9 v27 v28
def vcItems_11  : List (Nat × P) := [(5, vcItems_0), (6, P.sl 5 0 0), (27, P.ref 6 0 0)]
def vcItems_12  : Nat × En := (0, En.mk 0 none vcItems_1)
def vcItems_13  : Nat × En := (5, En.mk 0 none (Obj.arr (43 : TypeId) false []))
def vcItems_14 (v71 : List It) : P := P.sl 0 0 (List.length v71)
def vcItems_15  : List P := [P.fn (31 : FuncId) []]
theorem vcItems (l : List Pl) (live : List Id3) (post : P × List (Nat × En) → Prop) : (∃ (l_1 : List Pl), ∃ (live_1 : List Id3), [P.d (D.sl 8 (List.map plD l)), P.d (D.sl 3 (List.map ixD live))] = [P.d (D.sl 8 (List.map plD l_1)), P.d (D.sl 3 (List.map ixD live_1))] ∧ EqR [] [] ∧ (List.length l_1 ≤ 1000000 ∧ List.length live_1 ≤ 1000000) ∧ ∃ (T : List Pl), ∃ (V : List Id3), ∃ (f4 : D → Option D), ∃ (c4 : Int), ∃ (z2 : Bool), [vcItems_0] = [vcItems_0] ∧ vcItems_2 :: (1, En.mk 0 (some 1) (Obj.map 41 (fun (x : D) => match x with | D.agg [D.int IntKind.i64 a, D.int IntKind.i64 b, D.int IntKind.i64 c] => Option.map plD (atPl (tkL l_1) (a, b, c)) | _ => none) (↑(List.length (tkL l_1)) : Int) false)) :: (2, En.mk 0 (some 2) (Obj.map 41 (fun (x : D) => match x with | D.agg [D.int IntKind.i64 a, D.int IntKind.i64 b, D.int IntKind.i64 c] => Option.map (fun (_ : Unit) => D.agg []) ((fun (x : Id3) => if x ∈ lvL live_1 then some () else none) (a, b, c)) | _ => none) (↑(List.length (lvL live_1)) : Int) false)) :: vcItems_4 :: vcItems_5 = vcItems_2 :: vcItems_6 T :: (2, En.mk 0 (some 2) (Obj.map 41 (fun (x : D) => match x with | D.agg [D.int IntKind.i64 a, D.int IntKind.i64 b, D.int IntKind.i64 c] => Option.map (fun (_ : Unit) => D.agg []) ((fun (x : Id3) => if x ∈ V then some () else none) (a, b, c)) | _ => none) (↑(List.length V) : Int) z2)) :: vcItems_4 :: vcItems_7 f4 c4 ∧ (List.length T ≤ 1000000 ∧ Uq T ∧ List.Nodup V) ∧ ∃ (T_1 : List Pl), ∃ (V_1 : List Id3), ∃ (f2 : D → Option D), ∃ (c1 : Int), ∃ (c2 : Int), ∃ (z2 : Bool), ∃ (z3 : Bool), [vcItems_0] = [vcItems_0] ∧ vcItems_2 :: vcItems_6 T :: (2, En.mk 0 (some 2) (Obj.map 41 (fun (x : D) => match x with | D.agg [D.int IntKind.i64 a, D.int IntKind.i64 b, D.int IntKind.i64 c] => Option.map (fun (_ : Unit) => D.agg []) ((fun (x : Id3) => if x ∈ V then some () else none) (a, b, c)) | _ => none) (↑(List.length V) : Int) true)) :: (3, En.mk 0 (some 3) (Obj.map 41 (fun (x : D) => match x with | D.agg [D.int IntKind.i64 a, D.int IntKind.i64 b, D.int IntKind.i64 c] => Option.map (fun (_ : Unit) => D.agg []) ((fun (x : Id3) => if x ∈ seenI T V then some () else none) (a, b, c)) | _ => none) (↑(List.length (seenI T V)) : Int) false)) :: vcItems_7 f4 c4 = vcItems_2 :: (1, En.mk 0 (some 1) (vcItems_8 T_1 c1)) :: (2, En.mk 0 (some 2) (Obj.map 41 f2 c2 z2)) :: (3, En.mk 0 (some 3) (Obj.map 41 (fun (x : D) => match x with | D.agg [D.int IntKind.i64 a, D.int IntKind.i64 b, D.int IntKind.i64 c] => Option.map (fun (_ : Unit) => D.agg []) ((fun (x : Id3) => if x ∈ seenI T_1 V_1 then some () else none) (a, b, c)) | _ => none) (vcItems_9 T_1 V_1) z3)) :: vcItems_5 ∧ (List.length T_1 ≤ 1000000 ∧ Rt T_1) ∧ bif decide ((0 : Int) ≤ (0 : Int) ∧ (0 : Int) ≤ vcItems_9 T_1 V_1 ∧ vcItems_9 T_1 V_1 ≤ (9223372036854775807 : Int) ∧ vcItems_10 T_1 V_1 ≤ (281474976710656 : Int)) then ∃ (T : List Pl), ∃ (V : List Id3), ∃ (c2_1 : Int), ∃ (c3 : Int), ∃ (c4 : Int), S.mk 61 vcItems_11 [vcItems_12, (1, En.mk 0 none (vcItems_8 T_1 c1)), (2, En.mk 0 none (Obj.map 41 f2 c2 z2)), (3, En.mk 0 none (Obj.map 41 (fun (x : D) => match x with | D.agg [D.int IntKind.i64 a, D.int IntKind.i64 b, D.int IntKind.i64 c] => Option.map (fun (_ : Unit) => D.agg []) ((fun (x : Id3) => if x ∈ seenI T_1 V_1 then some () else none) (a, b, c)) | _ => none) (vcItems_9 T_1 V_1) true)), (4, En.mk 0 none (Obj.map 41 (fun (x : D) => match x with | D.agg [D.int IntKind.i64 a, D.int IntKind.i64 b, D.int IntKind.i64 c] => Option.map D.str ((fun (x : Id3) => if x ∈ seenI T_1 V_1 then some (nmX T_1 V_1 x) else none) (a, b, c)) | _ => none) (vcItems_9 T_1 V_1) false)), vcItems_13, (6, En.mk 0 none (Obj.iter 41 62 (fun (x : D) => match x with | D.agg [D.int IntKind.i64 a, D.int IntKind.i64 b, D.int IntKind.i64 c] => Option.map (fun (_ : Unit) => D.agg []) ((fun (x : Id3) => if x ∈ seenI T_1 V_1 then some () else none) (a, b, c)) | _ => none) none))] = S.mk 61 vcItems_11 [vcItems_12, (1, En.mk 0 none (Obj.map 41 (fun (x : D) => match x with | D.agg [D.int IntKind.i64 a, D.int IntKind.i64 b, D.int IntKind.i64 c] => Option.map plD (atPl T (a, b, c)) | _ => none) (↑(List.length T) : Int) false)), (2, En.mk 0 none (Obj.map 41 (fun (x : D) => match x with | D.agg [D.int IntKind.i64 a, D.int IntKind.i64 b, D.int IntKind.i64 c] => Option.map (fun (_ : Unit) => D.agg []) ((fun (x : Id3) => if x ∈ V then some () else none) (a, b, c)) | _ => none) c2_1 true)), (3, En.mk 0 none (Obj.map 41 (fun (x : D) => match x with | D.agg [D.int IntKind.i64 a, D.int IntKind.i64 b, D.int IntKind.i64 c] => Option.map (fun (_ : Unit) => D.agg []) ((fun (x : Id3) => if x ∈ seenI T V then some () else none) (a, b, c)) | _ => none) c3 true)), (4, En.mk 0 none (Obj.map 41 (fun (x : D) => match x with | D.agg [D.int IntKind.i64 a, D.int IntKind.i64 b, D.int IntKind.i64 c] => Option.map D.str ((fun (x : Id3) => if x ∈ seenI T V then some (nmX T V x) else none) (a, b, c)) | _ => none) c4 false)), vcItems_13, (6, En.mk 0 none (Obj.iter 41 62 (fun (x : D) => match x with | D.agg [D.int IntKind.i64 a, D.int IntKind.i64 b, D.int IntKind.i64 c] => Option.map (fun (_ : Unit) => D.agg []) ((fun (x : Id3) => if x ∈ seenI T V then some () else none) (a, b, c)) | _ => none) none))] ∧ (List.length T ≤ 1000 ∧ Rt T) ∧ ∀ (o : List It), List.Perm o (List.map (itemX T V) (seenL T V)) → ∃ (es : List D), vcItems_14 o :: vcItems_15 = P.sl 0 0 (List.length es) :: vcItems_15 ∧ [(0, En.mk 0 (some 0) (Obj.arr (43 : TypeId) false (List.map itmD o)))] = [(0, En.mk 0 (some 0) (Obj.arr (43 : TypeId) false es))] ∧ CmpOn PR kp0 (31 : FuncId) es cfP ∧ ∀ (es' : List D), List.Perm es' es → List.Pairwise (fun (a b : D) => ¬cfP b a < (0 : Int)) es' → post (vcItems_14 o, [(0, En.mk 0 none (Obj.arr (43 : TypeId) false es'))]) else False) = (bodyFN [(26, hTaken), (30, hSortA 31 cfP 43)] [(27, hMark), (28, hNames)] [(6, loopHook (kpF 12 6) gIt6)] 12 [plsP l, idsP live] []) post := by kernel_rfl
def hItems : KF1 := fun ps R post => ∃ l live, ps = [plsP l, idsP live] ∧ R = [] ∧ (l.length ≤ 1000 ∧ live.length ≤ 1000) ∧
  post (.sl 0 0 (itemsX (tkL l) (lvL live)).length, [(0, ⟨0, none, .arr 43 false ((itemsX (tkL l) (lvL live)).map itmD)⟩)])
end Pi

/- Tree: Items. -/
namespace Pi
open Go Go.Proofs
set_option maxRecDepth 100000
theorem isIt (x : It) : isD PR 43 (itmD x) = true := by
  obtain ⟨⟨a, b, c⟩, d, e, f⟩ := x
  kernel_rfl
theorem fcItems1 : FC 31 hItems1 := FC.mk (H := [(32, hCompareS)]) (by kernel_rfl) (.cons fcCompareS .nil) (by
  intro ps R post hh
  obtain ⟨a, b, rfl, rfl, hp⟩ := hh
  rw [← vcItems1]
  exact ⟨_, _, rfl, rfl, hp⟩)
theorem cfP_it (a b : It) : cfP (itmD a) (itmD b) = cmpB a.2.1 b.2.1 := rfl
theorem cfP_lt (a b : It) : cfP (itmD a) (itmD b) < 0 ↔ Op.bytesLess a.2.1 b.2.1 = true := by rw [cfP_it]; exact cmpB_lt _ _
theorem cmpOnP (l : List It) (hl : l.length ≤ 1000000) : CmpOn PR kp0 31 (l.map itmD) cfP where
  fn := ⟨_, Tryz.func31, by kernel_rfl, by kernel_rfl⟩
  ag := fun d hd => by
    obtain ⟨x, _, rfl⟩ := List.mem_map.1 hd
    exact ⟨_, rfl⟩
  len := by simp; omega
  run := fun a ha b hb => by
    obtain ⟨x, _, rfl⟩ := List.mem_map.1 ha
    obtain ⟨y, _, rfl⟩ := List.mem_map.1 hb
    exact FC.cmps fcItems1 ⟨x, y, rfl, rfl, rfl⟩
  irr := fun a ha => by
    obtain ⟨x, _, rfl⟩ := List.mem_map.1 ha
    rw [cfP_lt, lin_B.irr]
    simp
  tr := fun a ha b hb c hc => by
    obtain ⟨x, _, rfl⟩ := List.mem_map.1 ha
    obtain ⟨y, _, rfl⟩ := List.mem_map.1 hb
    obtain ⟨z, _, rfl⟩ := List.mem_map.1 hc
    rw [cfP_lt, cfP_lt, cfP_lt]
    exact lin_B.tr _ _ _
  ntr := fun a ha b hb c hc => by
    obtain ⟨x, _, rfl⟩ := List.mem_map.1 ha
    obtain ⟨y, _, rfl⟩ := List.mem_map.1 hb
    obtain ⟨z, _, rfl⟩ := List.mem_map.1 hc
    rw [cfP_lt, cfP_lt, cfP_lt]
    intro h1 h2
    simpa using lin_B.ntr (by simpa using h1) (by simpa using h2)
theorem okSortItem {X : XF} : FD X 30 (hSortA 31 cfP 43) := FD.ofX Tryz.func30 (by kernel_rfl) (by kernel_rfl) fun ps R post h => hSort_told (hSortA_hSort h)
/-- An item of its data. -/
def unIt : D → It
  | .agg [.int .i64 a, .int .i64 b, .int .i64 c, .str p, .bool d, .bool e] => ((a, b, c), p, d, e)
  | _ => ((0, 0, 0), [], false, false)
/-! how long paths are -/
theorem nmP_len (L : List Pl) {p : Pl} (h : okPl p = true) : (nmP L p).length ≤ 200 := by
  have h' := h
  simp only [okPl, Bool.and_eq_true] at h'
  have hn : p.2.2.1.length ≤ 32 := by
    have := h'.2
    simp only [nameOk, decide_eq_true_eq] at this
    exact this.2.1
  unfold nmP
  split
  · rw [clashR h]
    have hr := h'.1
    simp only [rightId, decide_eq_true_eq] at hr
    have l1 := itoa_len21 (n := p.1.1) (by omega) (by omega)
    have l2 := itoa_len21 (n := p.1.2.1) (by omega) (by omega)
    have l3 := itoa_len21 (n := p.1.2.2) (by omega) (by omega)
    simp [textS]
    omega
  · omega
theorem sum_le : ∀ (l : List (List UInt8)), (∀ s ∈ l, s.length ≤ 200) → sumL l ≤ 201 * l.length
  | [], _ => by simp [sumL, joinR]
  | s :: r, h => by
    have h1 := sum_le r fun x hx => h x (by simp [hx])
    have h2 := h s (by simp)
    simp only [sumL, joinR, List.flatMap_cons, List.length_append, List.length_cons] at h1 ⊢
    omega
theorem names_len {T : List Pl} {V : List Id3} (hT : Rt T) {x : Id3} {w : List Id3} (hw : Up T x w) : sumL (w.reverse.map (nmX T V)) ≤ 201 * T.length := by
  have := sum_le (w.reverse.map (nmX T V)) fun s hs => by
    obtain ⟨u, hu, rfl⟩ := List.mem_map.1 hs
    obtain ⟨w', h1, _⟩ := hw.sub u (by simpa using hu)
    obtain ⟨p, hp⟩ := h1.at
    unfold nmX
    rw [hp]
    exact nmP_len _ (hT.2 p (atPl_mem hp).1)
  have hl := hw.len
  simp only [List.length_map, List.length_reverse] at this
  omega
section
variable {X : XF} {w0 : World} (hX : CFOK PR w0 X.cf)
include hX
theorem lnIt6 : LN w0 12 6 (loopHook (kpF 12 6) gIt6) := LN.par hX (H := [(29, hPath)]) (HN := []) (hk := []) drM (by kernel_rfl) (by kernel_rfl) (.cons okPath .nil) .nil .nil
  (A := List Pl × List Id3 × Int × Int × Int) (B := List Id3 × List Id3 × Option (D × D))
  (fun ⟨T, V, c2, c3, c4⟩ ⟨o, L, e⟩ => it6 T V (inM (seenI T V)) (asM T V (seenI T V)) ((o.map fun x => itemX T V (plX T x)).map itmD) o.length (inM L) e (T.length : Int) c2 c3 c4)
  (fun ⟨T, V, _⟩ ⟨o, L, _⟩ => T.length ≤ 1000 ∧ Rt T ∧ L.Nodup ∧ (o ++ L).Perm (seenI T V))
  (fun _ b => b.2.1.length)
  (fun ⟨T, V, _⟩ x => ∃ o : List It, o.Perm ((seenL T V).map (itemX T V)) ∧ x = (.exit 0, ⟨61, [(6, .sl 0 0 o.length)], [(0, ⟨0, none, .arr 43 false (o.map itmD)⟩)]⟩))
  (by
    rintro ⟨T, V, c2, c3, c4⟩ ⟨o, L, e⟩ ⟨hm, hT, hn, hp⟩
    dsimp only at *
    (rw [← vcIt6]; delta vcIt6_0 vcIt6_1 vcIt6_2 vcIt6_3 vcIt6_4 vcIt6_5 vcIt6_6 vcIt6_7 vcIt6_8 vcIt6_9 vcIt6_10 vcIt6_11)
    have hl := hp.length_eq
    have hsl : (seenI T V).length ≤ T.length := by
      unfold seenI seenL
      rw [List.length_map]
      exact List.length_filter_le _ _
    rw [List.length_append] at hl
    refine ⟨fun k v hk => ?_, fun hno => ?_⟩
    · obtain ⟨x, hx, rfl, rfl⟩ := inM_some hk
      have hdel := inM_del hn x
      have h0 : 0 < L.length := List.length_pos_of_mem hx
      have hlen : (L.erase x).length < L.length := by
        rw [List.length_erase_of_mem hx]
        omega
      have hmx : marked T V x = true := seenI_mem.1 (hp.mem_iff.1 (by simp [hx]))
      obtain ⟨w, hw, mw⟩ := marked_up hmx
      have hpx := plX_at hmx
      have hit : itemX T V (plX T x) = (x, joinR (w.reverse.map (nmX T V)), (plX T x).2.2.2, !decide (x ∈ V)) := by
        unfold itemX
        rw [(atPl_mem hpx).2]
        unfold pathX
        rw [pathX_up hw]
      have hf : plM T (D.agg [D.int IntKind.i64 (D.iVal (D.cAt (ixD x) 0)), D.int IntKind.i64 (D.iVal (D.cAt (ixD x) 1)), D.int IntKind.i64 (D.iVal (D.cAt (ixD x) 2))]) = some (plD (plX T x)) := by
        show plM T (ixD x) = _
        rw [plM_id, hpx]
        rfl
      have hin : (inM V (D.agg [D.int IntKind.i64 (D.iVal (D.cAt (ixD x) 0)), D.int IntKind.i64 (D.iVal (D.cAt (ixD x) 1)), D.int IntKind.i64 (D.iVal (D.cAt (ixD x) 2))])).isSome = decide (x ∈ V) := by
        show (inM V (ixD x)).isSome = _
        rw [inM_id]
        by_cases h : x ∈ V <;> simp [h]
      have hns := names_len (V := V) hT hw
      refine oblI (isIx x) (oblI isNo (oblI ?_ ⟨T, x, w, nmX T V, inM V, inM (seenI T V), asM T V (seenI T V), c2, c3, c4, true, true, rfl, rfl, ⟨by omega, hw, fun u hu => ?_, by omega⟩, ?_⟩))
      · show isD PR 62 (getO (inM V (ixD x)) (.agg [])) = true
        rw [inM_id]
        by_cases hu : x ∈ V <;> simp only [hu, if_true, if_false, Option.map_some, Option.map_none] <;> exact isNo
      · rw [asM_id, if_pos (seenI_mem.2 (mw u hu))]
        rfl
      · simp only [hf, hin]
        refine oblI (isPl (plX T x)) (oblI ?_ ⟨trivial, trivial, trivial, trivial, ?_⟩)
        · simp only [List.length_map]
          simp [roomOk]
          omega
        · refine ⟨_, hlen, (o ++ [x], L.erase x, some (ixD x, .agg [])), ?_, ⟨hm, hT, hn.erase _, ?_⟩, rfl⟩
          · show _ = it6 T V (inM (seenI T V)) (asM T V (seenI T V)) (((o ++ [x]).map fun x => itemX T V (plX T x)).map itmD) (o ++ [x]).length (inM (L.erase x)) (some (ixD x, .agg [])) (T.length : Int) c2 c3 c4
            rw [← hdel, List.map_append, List.map_append, List.length_append]
            simp only [List.map_cons, List.map_nil, hit]
            rw [List.take_of_length_le (by simp)]
            rfl
          · simp only
            refine List.Perm.trans ?_ hp
            rw [List.append_assoc]
            exact (List.perm_cons_erase hx).symm.append_left o
    · have := inM_none hno
      subst this
      have ho : o.Perm (seenI T V) := by simpa using hp
      refine ⟨o.map fun x => itemX T V (plX T x), ?_, by rw [List.length_map]⟩
      have h1 := ho.map fun x => itemX T V (plX T x)
      refine h1.trans (List.Perm.of_eq ?_)
      unfold seenI
      rw [List.map_map]
      refine List.map_congr_left fun p hp => ?_
      obtain ⟨p1, p2⟩ := seen_pl hp
      show itemX T V (plX T p.1) = _
      unfold plX
      rw [atPl_of hT.1 p1]
      rfl)
  (by
    rintro s post ⟨T, V, c2, c3, c4, rfl, ⟨hm, hT⟩, hp⟩
    refine ⟨(T, V, c2, c3, c4), ([], seenI T V, none), rfl, ⟨hm, hT, seenI_nodup hT.1 V, by simp⟩, ?_⟩
    rintro x ⟨o, h1, rfl⟩
    exact hp o h1)
theorem ndItems : ND w0 12 hItems := ND.mk hX (H := [(26, hTaken), (30, hSortA 31 cfP 43)]) (HN := [(27, hMark), (28, hNames)]) (hk := [(6, loopHook (kpF 12 6) gIt6)]) drM (by kernel_rfl) (.cons okTaken (.cons okSortItem .nil)) (.cons (ndMark hX) (.cons (ndNames hX) .nil)) (.cons (lnIt6 hX) .nil) (by
  intro ps R post hh
  obtain ⟨l, live, rfl, rfl, ⟨h1, h2⟩, hp⟩ := hh
  (rw [← vcItems]; delta vcItems_0 vcItems_1 vcItems_2 vcItems_3 vcItems_4 vcItems_5 vcItems_6 vcItems_7 vcItems_8 vcItems_9 vcItems_10 vcItems_11 vcItems_12 vcItems_13 vcItems_14 vcItems_15)
  have hT := tkL_rt l
  have hTl := tkL_len l
  have hsl : (seenI (tkL l) (lvL live)).length ≤ (tkL l).length := by
    unfold seenI seenL
    rw [List.length_map]
    exact List.length_filter_le _ _
  refine ⟨l, live, rfl, rfl, ⟨by omega, by omega⟩, tkL l, lvL live, noM, 0, false, rfl, rfl, ⟨by omega, hT.1, lvL_nodup live⟩, tkL l, lvL live, inM (lvL live), _, _, true, false, rfl, rfl, ⟨by omega, hT⟩, oblI (decT ⟨by omega, by omega, by omega, by omega⟩) ⟨tkL l, lvL live, _, _, _, rfl, ⟨by omega, hT⟩, fun o ho => ?_⟩⟩
  have hol := ho.length_eq
  have hse : ((seenL (tkL l) (lvL live)).map (itemX (tkL l) (lvL live))).length ≤ 1000 := by
    rw [List.length_map]
    unfold seenI at hsl
    rw [List.length_map] at hsl
    omega
  refine ⟨o.map itmD, by rw [List.length_map], rfl, cmpOnP o (by omega), fun es' p1 p2 => ?_⟩
  obtain ⟨o2, rfl, p3⟩ := unmap itmD unIt (fun _ => rfl) p1
  rw [List.pairwise_map] at p2
  have e := itemsX_of hT (p3.trans ho) (p2.imp fun {a b} h => by rw [cfP_lt] at h; simpa using h)
  rw [e] at p3 ⊢
  rw [← p3.length_eq]
  exact hp)
end
end Pi

/- Tree: finding: what the runs ask. -/
namespace Pi
open Go Go.Proofs
set_option maxRecDepth 100000
set_option maxHeartbeats 0
abbrev itsP (l : List It) : P := .d (.sl 6 (l.map itmD))
/-- The first one of which something is so; -1: there is none. -/
def idxI {α : Type} (f : α → Bool) (l : List α) : Int := match l.findIdx? f with | some i => (i : Int) | none => -1
abbrev bxI (n : Nat) (x : Id3) : List (Nat × En) := [(n, ⟨0, none, .box 41 [.d (.int .i64 x.1), .d (.int .i64 x.2.1), .d (.int .i64 x.2.2)]⟩)]
abbrev bxS (p : List UInt8) : List (Nat × En) := [(0, ⟨0, some 0, .box 9 [.d (.str p)]⟩)]
/-! tree.Find -/
def hFind1 : KF1 := fun ps R post => ∃ (x : It) (p : List UInt8), ps = [.d (itmD x), .ref 0 0 0] ∧ R = bxS p ∧ post (.d (.bool (x.2.1 == p)), bxS p)
theorem vcFind1 (x : It) (p : List UInt8) (post : P × List (Nat × En) → Prop) : (post (P.d (D.bool (Prod.fst (Prod.snd x) == p)), [(0, En.mk 0 (some 0) (Obj.box 9 [P.d (D.str p)]))])) = (bodyF [] [] 36 [.d (itmD x), .ref 0 0 0] (bxS p)) post := by kernel_rfl
abbrev ixH (l : List It) (f : P) (n k : Int) (R : List (Nat × En)) : S := ⟨19, [(0, itsP l), (1, f), (7, iD n), (8, iD k)], R⟩
def gIxF : S → K (PX × S) := fun s post => ∃ l p, s = ixH l (.fn 36 [.ref 0 0 0]) (l.length : Int) 0 (bxS p) ∧ l.length ≤ 1000000 ∧ (∀ i : Int, i = idxI (fun x : It => x.2.1 == p) l → 0 ≤ i → post (.ret, ⟨19, [(1, .fn 36 [.ref 0 0 0]), (4, iD i)], bxS p⟩)) ∧ (idxI (fun x : It => x.2.1 == p) l = -1 → post (.exit 0, ⟨19, [(1, .fn 36 [.ref 0 0 0])], bxS p⟩))
theorem vcIxF (l : List It) (p : List UInt8) (n k : Int) (post : PX × S → Prop) : (bif decide (k < n) then bif decide ((0 : Int) ≤ k ∧ k < (↑(List.length (List.map itmD l)) : Int)) then bif isD PR 43 (D.nth (List.map itmD l) (Int.toNat k)) then ∃ (x : It), ∃ (p_1 : List UInt8), [P.d (D.agg [D.int IntKind.i64 (D.iVal (D.cAt (D.nth (List.map itmD l) (Int.toNat k)) 0)), D.int IntKind.i64 (D.iVal (D.cAt (D.nth (List.map itmD l) (Int.toNat k)) 1)), D.int IntKind.i64 (D.iVal (D.cAt (D.nth (List.map itmD l) (Int.toNat k)) 2)), D.str (D.sVal (D.cAt (D.nth (List.map itmD l) (Int.toNat k)) 3)), D.bool (D.bVal (D.cAt (D.nth (List.map itmD l) (Int.toNat k)) 4)), D.bool (D.bVal (D.cAt (D.nth (List.map itmD l) (Int.toNat k)) 5))]), P.ref 0 0 0] = [P.d (D.agg [D.int IntKind.i64 (Prod.fst (Prod.fst x)), D.int IntKind.i64 (Prod.fst (Prod.snd (Prod.fst x))), D.int IntKind.i64 (Prod.snd (Prod.snd (Prod.fst x))), D.str (Prod.fst (Prod.snd x)), D.bool (Prod.fst (Prod.snd (Prod.snd x))), D.bool (Prod.snd (Prod.snd (Prod.snd x)))]), P.ref 0 0 0] ∧ [(0, En.mk 0 (some 0) (Obj.box 9 [P.d (D.str p)]))] = [(0, En.mk 0 (some 0) (Obj.box 9 [P.d (D.str p_1)]))] ∧ bif Prod.fst (Prod.snd x) == p_1 then post (PX.ret, S.mk 19 [(1, P.fn 36 [P.ref 0 0 0]), (4, P.d (D.int IntKind.i64 k))] [(0, En.mk 0 (some 0) (Obj.box 9 [P.d (D.str p_1)]))]) else bif decide ((-9223372036854775808 : Int) ≤ k + (1 : Int) ∧ k + (1 : Int) ≤ (9223372036854775807 : Int)) then post (PX.normal, S.mk 19 [(0, P.d (D.sl 6 (List.map itmD l))), (1, P.fn 36 [P.ref 0 0 0]), (7, P.d (D.int IntKind.i64 n)), (8, P.d (D.int IntKind.i64 (k + (1 : Int))))] [(0, En.mk 0 (some 0) (Obj.box 9 [P.d (D.str p_1)]))]) else False else False else False else post (PX.exit 0, S.mk 19 [(1, P.fn 36 [P.ref 0 0 0])] [(0, En.mk 0 (some 0) (Obj.box 9 [P.d (D.str p)]))])) = (roundL [(36, hFind1)] [] 35 2 (ixH l (.fn 36 [.ref 0 0 0]) n k (bxS p))) post := by kernel_rfl
theorem vcIxFB (l : List It) (p : List UInt8) (post : P × List (Nat × En) → Prop) : (∃ (l_1 : List It), ∃ (p_1 : List UInt8), S.mk 19 [(0, P.d (D.sl 6 (List.map itmD l))), (1, P.fn 36 [P.ref 0 0 0]), (7, P.d (D.int IntKind.i64 (↑(List.length (List.map itmD l)) : Int))), (8, P.d (D.int IntKind.i64 (0 : Int)))] [(0, En.mk 0 (some 0) (Obj.box 9 [P.d (D.str p)]))] = S.mk 19 [(0, P.d (D.sl 6 (List.map itmD l_1))), (1, P.fn 36 [P.ref 0 0 0]), (7, P.d (D.int IntKind.i64 (↑(List.length l_1) : Int))), (8, P.d (D.int IntKind.i64 (0 : Int)))] [(0, En.mk 0 (some 0) (Obj.box 9 [P.d (D.str p_1)]))] ∧ List.length l_1 ≤ 1000000 ∧ (∀ (i : Int), i = idxI (fun (x : It) => Prod.fst (Prod.snd x) == p_1) l_1 → (0 : Int) ≤ i → post (P.d (D.int IntKind.i64 i), [(0, En.mk 0 (some 0) (Obj.box 9 [P.d (D.str p_1)]))])) ∧ (idxI (fun (x : It) => Prod.fst (Prod.snd x) == p_1) l_1 = (-1 : Int) → post (P.d (D.int IntKind.i64 (-1 : Int)), [(0, En.mk 0 (some 0) (Obj.box 9 [P.d (D.str p_1)]))]))) = (bodyF [] [(2, loopHook (kpF 35 2) gIxF)] 35 [itsP l, .fn 36 [.ref 0 0 0]] (bxS p)) post := by kernel_rfl
def hIxF : KF1 := fun ps R post => ∃ l p, ps = [itsP l, .fn 36 [.ref 0 0 0]] ∧ R = bxS p ∧ l.length ≤ 1000000 ∧ post (iD (idxI (fun x : It => x.2.1 == p) l), bxS p)
theorem vcFind (l : List It) (p : List UInt8) (post : P × List (Nat × En) → Prop) : (∃ (l_1 : List It), ∃ (p_1 : List UInt8), [P.d (D.sl 6 (List.map itmD l)), P.fn 36 [P.ref 0 0 0]] = [P.d (D.sl 6 (List.map itmD l_1)), P.fn 36 [P.ref 0 0 0]] ∧ [(0, En.mk 0 (some 0) (Obj.box 9 [P.d (D.str p)]))] = [(0, En.mk 0 (some 0) (Obj.box 9 [P.d (D.str p_1)]))] ∧ List.length l_1 ≤ 1000000 ∧ post (P.d (D.int IntKind.i64 (idxI (fun (x : It) => Prod.fst (Prod.snd x) == p_1) l_1)), [])) = (bodyF [(35, hIxF)] [] 14 [itsP l, sD p] []) post := by kernel_rfl
def hFindT : KF1 := fun ps R post => ∃ (l : List It) (p : List UInt8), ps = [itsP l, sD p] ∧ R = [] ∧ l.length ≤ 1000000 ∧ post (iD (idxI (fun x : It => x.2.1 == p) l), [])
/-! tree.Settled -/
def unset (x : It) : Bool := x.2.2.2 || x.2.1.contains 126
def hCont : KF1 := fun ps R post => ∃ s c, ps = [sD s, sD [c]] ∧ R = [] ∧ post (.d (.bool (s.contains c)), [])
def hSet1 : KF1 := fun ps R post => ∃ x : It, ps = [.d (itmD x)] ∧ R = [] ∧ post (.d (.bool (unset x)), [])
theorem vcSet1 (x : It) (post : P × List (Nat × En) → Prop) : (bif Prod.snd (Prod.snd (Prod.snd x)) then post (P.d (D.bool true), []) else ∃ (s : List UInt8), ∃ (c : UInt8), [P.d (D.str (Prod.fst (Prod.snd x))), P.d (D.str [(126 : UInt8)])] = [P.d (D.str s), P.d (D.str [c])] ∧ EqR [] [] ∧ post (P.d (D.bool (List.contains s c)), [])) = (bodyF [(39, hCont)] [] 38 [.d (itmD x)] []) post := by kernel_rfl
def gIxS : S → K (PX × S) := fun s post => ∃ l, s = ixH l (.fn 38 []) (l.length : Int) 0 [] ∧ l.length ≤ 1000000 ∧ (∀ i : Int, i = idxI unset l → 0 ≤ i → post (.ret, ⟨19, [(1, .fn 38 []), (4, iD i)], []⟩)) ∧ (idxI unset l = -1 → post (.exit 0, ⟨19, [(1, .fn 38 [])], []⟩))
theorem vcIxS (l : List It) (n k : Int) (post : PX × S → Prop) : (bif decide (k < n) then bif decide ((0 : Int) ≤ k ∧ k < (↑(List.length (List.map itmD l)) : Int)) then bif isD PR 43 (D.nth (List.map itmD l) (Int.toNat k)) then ∃ (x : It), [P.d (D.agg [D.int IntKind.i64 (D.iVal (D.cAt (D.nth (List.map itmD l) (Int.toNat k)) 0)), D.int IntKind.i64 (D.iVal (D.cAt (D.nth (List.map itmD l) (Int.toNat k)) 1)), D.int IntKind.i64 (D.iVal (D.cAt (D.nth (List.map itmD l) (Int.toNat k)) 2)), D.str (D.sVal (D.cAt (D.nth (List.map itmD l) (Int.toNat k)) 3)), D.bool (D.bVal (D.cAt (D.nth (List.map itmD l) (Int.toNat k)) 4)), D.bool (D.bVal (D.cAt (D.nth (List.map itmD l) (Int.toNat k)) 5))])] = [P.d (D.agg [D.int IntKind.i64 (Prod.fst (Prod.fst x)), D.int IntKind.i64 (Prod.fst (Prod.snd (Prod.fst x))), D.int IntKind.i64 (Prod.snd (Prod.snd (Prod.fst x))), D.str (Prod.fst (Prod.snd x)), D.bool (Prod.fst (Prod.snd (Prod.snd x))), D.bool (Prod.snd (Prod.snd (Prod.snd x)))])] ∧ EqR [] [] ∧ bif unset x then post (PX.ret, S.mk 19 [(1, P.fn 38 []), (4, P.d (D.int IntKind.i64 k))] []) else bif decide ((-9223372036854775808 : Int) ≤ k + (1 : Int) ∧ k + (1 : Int) ≤ (9223372036854775807 : Int)) then post (PX.normal, S.mk 19 [(0, P.d (D.sl 6 (List.map itmD l))), (1, P.fn 38 []), (7, P.d (D.int IntKind.i64 n)), (8, P.d (D.int IntKind.i64 (k + (1 : Int))))] []) else False else False else False else post (PX.exit 0, S.mk 19 [(1, P.fn 38 [])] [])) = (roundL [(38, hSet1)] [] 35 2 (ixH l (.fn 38 []) n k [])) post := by kernel_rfl
theorem vcIxSB (l : List It) (post : P × List (Nat × En) → Prop) : (∃ (l_1 : List It), S.mk 19 [(0, P.d (D.sl 6 (List.map itmD l))), (1, P.fn 38 []), (7, P.d (D.int IntKind.i64 (↑(List.length (List.map itmD l)) : Int))), (8, P.d (D.int IntKind.i64 (0 : Int)))] [] = S.mk 19 [(0, P.d (D.sl 6 (List.map itmD l_1))), (1, P.fn 38 []), (7, P.d (D.int IntKind.i64 (↑(List.length l_1) : Int))), (8, P.d (D.int IntKind.i64 (0 : Int)))] [] ∧ List.length l_1 ≤ 1000000 ∧ (∀ (i : Int), i = idxI unset l_1 → (0 : Int) ≤ i → post (P.d (D.int IntKind.i64 i), [])) ∧ (idxI unset l_1 = (-1 : Int) → post (P.d (D.int IntKind.i64 (-1 : Int)), []))) = (bodyF [] [(2, loopHook (kpF 35 2) gIxS)] 35 [itsP l, .fn 38 []] []) post := by kernel_rfl
def hIxS : KF1 := fun ps R post => ∃ l, ps = [itsP l, .fn 38 []] ∧ R = [] ∧ l.length ≤ 1000000 ∧ post (iD (idxI unset l), [])
def hCnS : KF1 := fun ps R post => ∃ l : List It, ps = [itsP l, .fn 38 []] ∧ R = [] ∧ l.length ≤ 1000000 ∧ post (.d (.bool (l.any unset)), [])
theorem vcCnS (l : List It) (post : P × List (Nat × En) → Prop) : (∃ (l_1 : List It), [P.d (D.sl 6 (List.map itmD l)), P.fn 38 []] = [P.d (D.sl 6 (List.map itmD l_1)), P.fn 38 []] ∧ EqR [] [] ∧ List.length l_1 ≤ 1000000 ∧ post (P.d (D.bool (decide (idxI unset l_1 ≥ (0 : Int)))), [])) = (bodyF [(35, hIxS)] [] 37 [itsP l, .fn 38 []] []) post := by kernel_rfl
theorem vcSet (l : List It) (post : P × List (Nat × En) → Prop) : (∃ (l_1 : List It), [P.d (D.sl 6 (List.map itmD l)), P.fn 38 []] = [P.d (D.sl 6 (List.map itmD l_1)), P.fn 38 []] ∧ EqR [] [] ∧ List.length l_1 ≤ 1000000 ∧ post (P.d (D.bool !List.any l_1 unset), [])) = (bodyF [(37, hCnS)] [] 16 [itsP l] []) post := by kernel_rfl
def hSettled : KF1 := fun ps R post => ∃ l : List It, ps = [itsP l] ∧ R = [] ∧ l.length ≤ 1000000 ∧ post (.d (.bool (!l.any unset)), [])
/-! the document's -/
abbrev fdH (l : List It) (p : List UInt8) (k : Int) : S := ⟨20, [(0, itsP l), (1, sD p), (5, iD k)], []⟩
def gFdR : S → K (PX × S) := fun s post => ∃ l p, s = fdH l p 0 ∧ l.length ≤ 1000000 ∧ (∀ i : Int, i = idxI (fun x : It => x.2.1 == p) l → 0 ≤ i → post (.ret, ⟨20, [(4, iD i)], []⟩)) ∧ (idxI (fun x : It => x.2.1 == p) l = -1 → post (.exit 0, ⟨20, [], []⟩))
theorem vcFdR (l : List It) (p : List UInt8) (k : Int) (post : PX × S → Prop) : (bif decide (k < (↑(List.length (List.map itmD l)) : Int)) then bif decide ((0 : Int) ≤ k ∧ k < (↑(List.length (List.map itmD l)) : Int)) then bif isD PR 43 (D.nth (List.map itmD l) (Int.toNat k)) then bif D.sVal (D.cAt (D.nth (List.map itmD l) (Int.toNat k)) 3) == p then post (PX.ret, S.mk 20 [(4, P.d (D.int IntKind.i64 k))] []) else bif decide ((-9223372036854775808 : Int) ≤ k + (1 : Int) ∧ k + (1 : Int) ≤ (9223372036854775807 : Int)) then post (PX.normal, S.mk 20 [(0, P.d (D.sl 6 (List.map itmD l))), (1, P.d (D.str p)), (5, P.d (D.int IntKind.i64 (k + (1 : Int))))] []) else False else False else False else post (PX.exit 0, S.mk 20 [] [])) = (roundL [] [] 15 2 (fdH l p k)) post := by kernel_rfl
theorem vcFdRB (l : List It) (p : List UInt8) (post : P × List (Nat × En) → Prop) : (∃ (l_1 : List It), ∃ (p_1 : List UInt8), S.mk 20 [(0, P.d (D.sl 6 (List.map itmD l))), (1, P.d (D.str p)), (5, P.d (D.int IntKind.i64 (0 : Int)))] [] = S.mk 20 [(0, P.d (D.sl 6 (List.map itmD l_1))), (1, P.d (D.str p_1)), (5, P.d (D.int IntKind.i64 (0 : Int)))] [] ∧ List.length l_1 ≤ 1000000 ∧ (∀ (i : Int), i = idxI (fun (x : It) => Prod.fst (Prod.snd x) == p_1) l_1 → (0 : Int) ≤ i → post (P.d (D.int IntKind.i64 i), [])) ∧ (idxI (fun (x : It) => Prod.fst (Prod.snd x) == p_1) l_1 = (-1 : Int) → post (P.d (D.int IntKind.i64 (-1 : Int)), []))) = (bodyF [] [(2, loopHook (kpF 15 2) gFdR)] 15 [itsP l, sD p] []) post := by kernel_rfl
abbrev smH (l m : List It) (k : Int) : S := ⟨26, [(0, itsP l), (1, itsP m), (5, iD k)], []⟩
def gSmI : S → K (PX × S) := fun s post => ∃ l m, s = smH l m 0 ∧ (l.length = m.length ∧ l.length ≤ 1000000) ∧ (l ≠ m → post (.ret, ⟨26, [(4, .d (.bool false))], []⟩)) ∧ (l = m → post (.exit 0, ⟨26, [], []⟩))
theorem vcSmI (l m : List It) (k : Int) (post : PX × S → Prop) : (bif decide (k < (↑(List.length (List.map itmD l)) : Int)) then bif decide ((0 : Int) ≤ k ∧ k < (↑(List.length (List.map itmD l)) : Int)) then bif isD PR 43 (D.nth (List.map itmD l) (Int.toNat k)) then bif decide ((0 : Int) ≤ k ∧ k < (↑(List.length (List.map itmD m)) : Int)) then bif isD PR 43 (D.nth (List.map itmD m) (Int.toNat k)) then bif !(D.iVal (D.cAt (D.nth (List.map itmD l) (Int.toNat k)) 0) == D.iVal (D.cAt (D.nth (List.map itmD m) (Int.toNat k)) 0) && (D.iVal (D.cAt (D.nth (List.map itmD l) (Int.toNat k)) 1) == D.iVal (D.cAt (D.nth (List.map itmD m) (Int.toNat k)) 1) && true) && (D.iVal (D.cAt (D.nth (List.map itmD l) (Int.toNat k)) 2) == D.iVal (D.cAt (D.nth (List.map itmD m) (Int.toNat k)) 2) && true) && (D.sVal (D.cAt (D.nth (List.map itmD l) (Int.toNat k)) 3) == D.sVal (D.cAt (D.nth (List.map itmD m) (Int.toNat k)) 3) && (D.bVal (D.cAt (D.nth (List.map itmD l) (Int.toNat k)) 4) == D.bVal (D.cAt (D.nth (List.map itmD m) (Int.toNat k)) 4) && (D.bVal (D.cAt (D.nth (List.map itmD l) (Int.toNat k)) 5) == D.bVal (D.cAt (D.nth (List.map itmD m) (Int.toNat k)) 5) && true)))) then post (PX.ret, S.mk 26 [(4, P.d (D.bool false))] []) else bif decide ((-9223372036854775808 : Int) ≤ k + (1 : Int) ∧ k + (1 : Int) ≤ (9223372036854775807 : Int)) then post (PX.normal, S.mk 26 [(0, P.d (D.sl 6 (List.map itmD l))), (1, P.d (D.sl 6 (List.map itmD m))), (5, P.d (D.int IntKind.i64 (k + (1 : Int))))] []) else False else False else False else False else False else post (PX.exit 0, S.mk 26 [] [])) = (roundL [] [] 11 4 (smH l m k)) post := by kernel_rfl
theorem vcSmIB (l m : List It) (post : P × List (Nat × En) → Prop) : (bif (↑(List.length (List.map itmD l)) : Int) != (↑(List.length (List.map itmD m)) : Int) then post (P.d (D.bool false), []) else ∃ (l_1 : List It), ∃ (m_1 : List It), S.mk 26 [(0, P.d (D.sl 6 (List.map itmD l))), (1, P.d (D.sl 6 (List.map itmD m))), (5, P.d (D.int IntKind.i64 (0 : Int)))] [] = S.mk 26 [(0, P.d (D.sl 6 (List.map itmD l_1))), (1, P.d (D.sl 6 (List.map itmD m_1))), (5, P.d (D.int IntKind.i64 (0 : Int)))] [] ∧ (List.length l_1 = List.length m_1 ∧ List.length l_1 ≤ 1000000) ∧ (l_1 ≠ m_1 → post (P.d (D.bool false), [])) ∧ (l_1 = m_1 → post (P.d (D.bool true), []))) = (bodyF [] [(4, loopHook (kpF 11 4) gSmI)] 11 [itsP l, itsP m] []) post := by kernel_rfl
def hSameI : KF1 := fun ps R post => ∃ l m : List It, ps = [itsP l, itsP m] ∧ R = [] ∧ l.length ≤ 1000000 ∧ post (.d (.bool (decide (l = m))), [])
/-! ref13.Find, ref09.Has -/
abbrev f13H (l : List Pl) (x : Id3) (k : Int) : S := ⟨20, [(0, plsP l), (3, .ref 0 0 0), (5, iD k)], bxI 0 x⟩
def at13 (l : List Pl) (x : Id3) : Int := idxI (fun p : Pl => p.1 == x) l
def gF13 : S → K (PX × S) := fun s post => ∃ l x, s = f13H l x 0 ∧ l.length ≤ 1000000 ∧ (∀ i : Int, i = at13 l x → 0 ≤ i → post (.ret, ⟨20, [(0, plsP l), (4, iD i)], []⟩)) ∧ (at13 l x = -1 → post (.exit 0, ⟨20, [(0, plsP l)], []⟩))
theorem vcF13 (l : List Pl) (x : Id3) (k : Int) (post : PX × S → Prop) : (bif decide (k < (↑(List.length (List.map plD l)) : Int)) then bif decide ((0 : Int) ≤ k ∧ k < (↑(List.length (List.map plD l)) : Int)) then bif isD PR 47 (D.nth (List.map plD l) (Int.toNat k)) then bif D.iVal (D.cAt (D.nth (List.map plD l) (Int.toNat k)) 0) == Prod.fst x && (D.iVal (D.cAt (D.nth (List.map plD l) (Int.toNat k)) 1) == Prod.fst (Prod.snd x) && true) && (D.iVal (D.cAt (D.nth (List.map plD l) (Int.toNat k)) 2) == Prod.snd (Prod.snd x) && true) then post (PX.ret, S.mk 20 [(0, P.d (D.sl 8 (List.map plD l))), (4, P.d (D.int IntKind.i64 k))] []) else bif decide ((-9223372036854775808 : Int) ≤ k + (1 : Int) ∧ k + (1 : Int) ≤ (9223372036854775807 : Int)) then post (PX.normal, S.mk 20 [(0, P.d (D.sl 8 (List.map plD l))), (3, P.ref 0 0 0), (5, P.d (D.int IntKind.i64 (k + (1 : Int))))] [(0, En.mk 0 none (Obj.box 41 [P.d (D.int IntKind.i64 (Prod.fst x)), P.d (D.int IntKind.i64 (Prod.fst (Prod.snd x))), P.d (D.int IntKind.i64 (Prod.snd (Prod.snd x)))]))]) else False else False else False else post (PX.exit 0, S.mk 20 [(0, P.d (D.sl 8 (List.map plD l)))] [])) = (roundL [] [] 22 2 (f13H l x k)) post := by kernel_rfl
theorem vcF13B (l : List Pl) (x : Id3) (post : P × List (Nat × En) → Prop) : (∃ (l_1 : List Pl), ∃ (x_1 : Id3), S.mk 20 [(0, P.d (D.sl 8 (List.map plD l))), (3, P.ref 0 0 0), (5, P.d (D.int IntKind.i64 (0 : Int)))] [(0, En.mk 0 none (Obj.box 41 [P.d (D.int IntKind.i64 (Prod.fst x)), P.d (D.int IntKind.i64 (Prod.fst (Prod.snd x))), P.d (D.int IntKind.i64 (Prod.snd (Prod.snd x)))]))] = S.mk 20 [(0, P.d (D.sl 8 (List.map plD l_1))), (3, P.ref 0 0 0), (5, P.d (D.int IntKind.i64 (0 : Int)))] [(0, En.mk 0 none (Obj.box 41 [P.d (D.int IntKind.i64 (Prod.fst x_1)), P.d (D.int IntKind.i64 (Prod.fst (Prod.snd x_1))), P.d (D.int IntKind.i64 (Prod.snd (Prod.snd x_1)))]))] ∧ List.length l_1 ≤ 1000000 ∧ (∀ (i : Int), i = at13 l_1 x_1 → (0 : Int) ≤ i → post (P.d (D.int IntKind.i64 i), [])) ∧ (at13 l_1 x_1 = (-1 : Int) → post (P.d (D.int IntKind.i64 (-1 : Int)), []))) = (bodyF [] [(2, loopHook (kpF 22 2) gF13)] 22 [plsP l, .d (ixD x)] []) post := by kernel_rfl
def hF13 : KF1 := fun ps R post => ∃ l x, ps = [plsP l, .d (ixD x)] ∧ R = [] ∧ l.length ≤ 1000000 ∧ post (iD (at13 l x), [])
abbrev arL (z : Bool) (l : List Pl) : List (Nat × En) := [(0, ⟨0, some 0, .arr 47 z (l.map plD)⟩)]
abbrev f13L (z : Bool) (l : List Pl) (n : Nat) (x : Id3) (k : Int) : S := ⟨20, [(0, .sl 0 0 n), (3, .ref 1 0 0), (5, iD k)], arL z l ++ bxI 1 x⟩
def gF13L : S → K (PX × S) := fun s post => ∃ z l x, s = f13L z l l.length x 0 ∧ l.length ≤ 1000000 ∧ (∀ i : Int, i = at13 l x → 0 ≤ i → post (.ret, ⟨20, [(0, .sl 0 0 l.length), (4, iD i)], arL z l⟩)) ∧ (at13 l x = -1 → post (.exit 0, ⟨20, [(0, .sl 0 0 l.length)], arL z l⟩))
theorem vcF13L (z : Bool) (l : List Pl) (n : Nat) (x : Id3) (k : Int) (post : PX × S → Prop) : (bif decide (k < (↑n : Int)) then bif decide ((0 : Int) ≤ k ∧ k < (↑n : Int)) then bif decide (Int.toNat k < List.length (List.map plD l)) then bif isD PR (47 : TypeId) (D.nth (List.map plD l) (Int.toNat k)) then bif D.iVal (D.cAt (D.nth (List.map plD l) (Int.toNat k)) 0) == Prod.fst x && (D.iVal (D.cAt (D.nth (List.map plD l) (Int.toNat k)) 1) == Prod.fst (Prod.snd x) && true) && (D.iVal (D.cAt (D.nth (List.map plD l) (Int.toNat k)) 2) == Prod.snd (Prod.snd x) && true) then post (PX.ret, S.mk 20 [(0, P.sl 0 0 n), (4, P.d (D.int IntKind.i64 k))] [(0, En.mk 0 (some 0) (Obj.arr 47 z (List.map plD l)))]) else bif decide ((-9223372036854775808 : Int) ≤ k + (1 : Int) ∧ k + (1 : Int) ≤ (9223372036854775807 : Int)) then post (PX.normal, S.mk 20 [(0, P.sl 0 0 n), (3, P.ref 1 0 0), (5, P.d (D.int IntKind.i64 (k + (1 : Int))))] [(0, En.mk 0 (some 0) (Obj.arr 47 z (List.map plD l))), (1, En.mk 0 none (Obj.box 41 [P.d (D.int IntKind.i64 (Prod.fst x)), P.d (D.int IntKind.i64 (Prod.fst (Prod.snd x))), P.d (D.int IntKind.i64 (Prod.snd (Prod.snd x)))]))]) else False else False else False else False else post (PX.exit 0, S.mk 20 [(0, P.sl 0 0 n)] [(0, En.mk 0 (some 0) (Obj.arr 47 z (List.map plD l)))])) = (roundL [] [] 22 2 (f13L z l n x k)) post := by kernel_rfl
theorem vcF13LB (z : Bool) (l : List Pl) (n : Nat) (x : Id3) (post : P × List (Nat × En) → Prop) : (∃ (z_1 : Bool), ∃ (l_1 : List Pl), ∃ (x_1 : Id3), S.mk 20 [(0, P.sl 0 0 n), (3, P.ref 1 0 0), (5, P.d (D.int IntKind.i64 (0 : Int)))] [(0, En.mk 0 (some 0) (Obj.arr 47 z (List.map plD l))), (1, En.mk 0 none (Obj.box 41 [P.d (D.int IntKind.i64 (Prod.fst x)), P.d (D.int IntKind.i64 (Prod.fst (Prod.snd x))), P.d (D.int IntKind.i64 (Prod.snd (Prod.snd x)))]))] = S.mk 20 [(0, P.sl 0 0 (List.length l_1)), (3, P.ref 1 0 0), (5, P.d (D.int IntKind.i64 (0 : Int)))] [(0, En.mk 0 (some 0) (Obj.arr 47 z_1 (List.map plD l_1))), (1, En.mk 0 none (Obj.box 41 [P.d (D.int IntKind.i64 (Prod.fst x_1)), P.d (D.int IntKind.i64 (Prod.fst (Prod.snd x_1))), P.d (D.int IntKind.i64 (Prod.snd (Prod.snd x_1)))]))] ∧ List.length l_1 ≤ 1000000 ∧ (∀ (i : Int), i = at13 l_1 x_1 → (0 : Int) ≤ i → post (P.d (D.int IntKind.i64 i), [(0, En.mk 0 (some 0) (Obj.arr 47 z_1 (List.map plD l_1)))])) ∧ (at13 l_1 x_1 = (-1 : Int) → post (P.d (D.int IntKind.i64 (-1 : Int)), [(0, En.mk 0 (some 0) (Obj.arr 47 z_1 (List.map plD l_1)))]))) = (bodyF [] [(2, loopHook (kpF 22 2) gF13L)] 22 [.sl 0 0 n, .d (ixD x)] (arL z l)) post := by kernel_rfl
def hF13L : KF1 := fun ps R post => ∃ z l x, ps = [.sl 0 0 l.length, .d (ixD x)] ∧ R = arL z l ∧ l.length ≤ 1000000 ∧ post (iD (at13 l x), arL z l)
abbrev hsH (l : List Id3) (x : Id3) (k : Int) : S := ⟨18, [(0, idsP l), (3, .ref 0 0 0), (5, iD k)], bxI 0 x⟩
def gHas : S → K (PX × S) := fun s post => ∃ l x, s = hsH l x 0 ∧ l.length ≤ 1000000 ∧ (x ∈ l → post (.ret, ⟨18, [(4, .d (.bool true))], []⟩)) ∧ (x ∉ l → post (.exit 0, ⟨18, [], []⟩))
theorem vcHas (l : List Id3) (x : Id3) (k : Int) (post : PX × S → Prop) : (bif decide (k < (↑(List.length (List.map ixD l)) : Int)) then bif decide ((0 : Int) ≤ k ∧ k < (↑(List.length (List.map ixD l)) : Int)) then bif isD PR 41 (D.nth (List.map ixD l) (Int.toNat k)) then bif D.iVal (D.cAt (D.nth (List.map ixD l) (Int.toNat k)) 0) == Prod.fst x && (D.iVal (D.cAt (D.nth (List.map ixD l) (Int.toNat k)) 1) == Prod.fst (Prod.snd x) && true) && (D.iVal (D.cAt (D.nth (List.map ixD l) (Int.toNat k)) 2) == Prod.snd (Prod.snd x) && true) then post (PX.ret, S.mk 18 [(4, P.d (D.bool true))] []) else bif decide ((-9223372036854775808 : Int) ≤ k + (1 : Int) ∧ k + (1 : Int) ≤ (9223372036854775807 : Int)) then post (PX.normal, S.mk 18 [(0, P.d (D.sl 3 (List.map ixD l))), (3, P.ref 0 0 0), (5, P.d (D.int IntKind.i64 (k + (1 : Int))))] [(0, En.mk 0 none (Obj.box 41 [P.d (D.int IntKind.i64 (Prod.fst x)), P.d (D.int IntKind.i64 (Prod.fst (Prod.snd x))), P.d (D.int IntKind.i64 (Prod.snd (Prod.snd x)))]))]) else False else False else False else post (PX.exit 0, S.mk 18 [] [])) = (roundL [] [] 21 2 (hsH l x k)) post := by kernel_rfl
theorem vcHasB (l : List Id3) (x : Id3) (post : P × List (Nat × En) → Prop) : (∃ (l_1 : List Id3), ∃ (x_1 : Id3), S.mk 18 [(0, P.d (D.sl 3 (List.map ixD l))), (3, P.ref 0 0 0), (5, P.d (D.int IntKind.i64 (0 : Int)))] [(0, En.mk 0 none (Obj.box 41 [P.d (D.int IntKind.i64 (Prod.fst x)), P.d (D.int IntKind.i64 (Prod.fst (Prod.snd x))), P.d (D.int IntKind.i64 (Prod.snd (Prod.snd x)))]))] = S.mk 18 [(0, P.d (D.sl 3 (List.map ixD l_1))), (3, P.ref 0 0 0), (5, P.d (D.int IntKind.i64 (0 : Int)))] [(0, En.mk 0 none (Obj.box 41 [P.d (D.int IntKind.i64 (Prod.fst x_1)), P.d (D.int IntKind.i64 (Prod.fst (Prod.snd x_1))), P.d (D.int IntKind.i64 (Prod.snd (Prod.snd x_1)))]))] ∧ List.length l_1 ≤ 1000000 ∧ (x_1 ∈ l_1 → post (P.d (D.bool true), [])) ∧ (¬x_1 ∈ l_1 → post (P.d (D.bool false), []))) = (bodyF [] [(2, loopHook (kpF 21 2) gHas)] 21 [idsP l, .d (ixD x)] []) post := by kernel_rfl
def hHas : KF1 := fun ps R post => ∃ l x, ps = [idsP l, .d (ixD x)] ∧ R = [] ∧ l.length ≤ 1000000 ∧ post (.d (.bool (decide (x ∈ l))), [])
end Pi

/- Tree: finding. -/
namespace Pi
open Go Go.Proofs
set_option maxRecDepth 100000
theorem idxI_yes {α : Type} {f : α → Bool} {l : List α} {i : Nat} {x : α} (h : l[i]? = some x) (hf : f x = true) (hb : ∀ y ∈ l.take i, f y = false) : idxI f l = (i : Int) := by
  have hi : i < l.length := (List.getElem?_eq_some_iff.1 h).1
  have : l.findIdx? f = some i := by
    rw [List.findIdx?_eq_some_iff_getElem]
    refine ⟨hi, by rw [(List.getElem?_eq_some_iff.1 h).2]; exact hf, fun j hj => ?_⟩
    rw [hb _ (List.mem_take_iff_getElem.2 ⟨j, by omega, rfl⟩)]
    simp
  unfold idxI
  rw [this]
theorem idxI_no {α : Type} {f : α → Bool} {l : List α} (h : ∀ x ∈ l, f x = false) : idxI f l = -1 := by
  have : l.findIdx? f = none := by
    rw [List.findIdx?_eq_none_iff]
    exact h
  unfold idxI
  rw [this]
theorem idxI_cases {α : Type} (f : α → Bool) (l : List α) : (∃ (i : Nat) (x : α), l[i]? = some x ∧ f x = true ∧ idxI f l = (i : Int)) ∨ (idxI f l = -1 ∧ ∀ x ∈ l, f x = false) := by
  cases h : l.findIdx? f with
  | some i =>
    obtain ⟨hi, hf, _⟩ := List.findIdx?_eq_some_iff_getElem.1 h
    exact .inl ⟨i, l[i], List.getElem?_eq_getElem hi, hf, by unfold idxI; rw [h]⟩
  | none => exact .inr ⟨by unfold idxI; rw [h], List.findIdx?_eq_none_iff.1 h⟩
theorem getD_some {α : Type} {l : List α} {k : Nat} (h : k < l.length) (d : α) : l[k]? = some (l.getD k d) := by
  rw [List.getD_eq_getElem?_getD, List.getElem?_eq_getElem h]
  rfl
section
variable {X : XF}
/-- A loop that looks for the first one of which something is so. -/
theorem LD.scan {H : List (FuncId × KF1)} {hk : List (Nat × (S → K (PX × S)))} {f id : Nat} {g : S → K (PX × S)} (hu : uniq PR f = true) (hc : clsOK (dcT f) (loopOf PR f id) = true) (hH : HD X H) (hl : LDs X f hk)
    {A α : Type} (hd : A → Int → S) (lst : A → List α) (d : α) (t : A → α → Bool) (C : A → Prop) (rt : A → Int → S) (ex : A → S)
    (hr : ∀ a (k : Int) post, C a → (lst a).length ≤ 1000000 → 0 ≤ k → (k < (lst a).length → k.toNat < (lst a).length → (t a ((lst a).getD k.toNat d) = true → post (.ret, rt a k)) → (t a ((lst a).getD k.toNat d) = false → post (.normal, hd a (k + 1))) → roundL H hk f id (hd a k) post))
    (hx : ∀ a (k : Int) post, C a → ¬ k < (lst a).length → post (.exit 0, ex a) → roundL H hk f id (hd a k) post)
    (hg : ∀ s post, g s post → ∃ a, s = hd a 0 ∧ C a ∧ (lst a).length ≤ 1000000 ∧ (∀ i : Int, i = idxI (t a) (lst a) → 0 ≤ i → post (.ret, rt a i)) ∧ (idxI (t a) (lst a) = -1 → post (.exit 0, ex a))) : LD X f id (loopHook (kpF f id) g) :=
  LD.par hu hc hH hl (A := A) (B := Int) hd (fun a k => C a ∧ (lst a).length ≤ 1000000 ∧ 0 ≤ k ∧ k.toNat ≤ (lst a).length ∧ ∀ y ∈ (lst a).take k.toNat, t a y = false) (fun a k => ((lst a).length - k).toNat)
    (fun a x => (∃ i : Int, i = idxI (t a) (lst a) ∧ 0 ≤ i ∧ x = (.ret, rt a i)) ∨ (idxI (t a) (lst a) = -1 ∧ x = (.exit 0, ex a)))
    (by
      rintro a k ⟨h1, h2, h3, h4, h5⟩
      by_cases hk : k < (lst a).length
      · have hkn : k.toNat < (lst a).length := by omega
        refine hr a k _ h1 h2 h3 hk hkn (fun ht => .inl ⟨k, ?_, h3, rfl⟩) fun ht => ⟨((lst a).length - (k + 1)).toNat, by omega, k + 1, rfl, ⟨h1, h2, by omega, by omega, fun y hy => ?_⟩, rfl⟩
        · rw [idxI_yes (getD_some hkn d) ht h5]
          omega
        · rw [show (k + 1).toNat = k.toNat + 1 by omega, List.take_add_one, getD_some hkn d] at hy
          rcases List.mem_append.1 hy with hy | hy
          · exact h5 y hy
          · simp at hy
            rw [hy]
            simpa using ht
      · refine hx a k _ h1 hk (.inr ⟨idxI_no fun y hy => h5 y ?_, rfl⟩)
        rw [List.take_of_length_le (by omega)]
        exact hy)
    (by
      intro s post h
      obtain ⟨a, rfl, h1, h2, h3, h4⟩ := hg s post h
      refine ⟨a, 0, rfl, ⟨h1, h2, by simp, by simp, by simp⟩, ?_⟩
      rintro x (⟨i, h5, h6, rfl⟩ | ⟨h5, rfl⟩)
      · exact h3 i h5 h6
      · exact h4 h5)
theorem it_nth {l : List It} {i : Nat} (h : i < l.length) (d : It) : D.nth (l.map itmD) i = itmD (l.getD i d) := by
  rw [nth_map itmD l i h]
  simp [List.getD_eq_getElem?_getD, h]
def it0 : It := ((0, 0, 0), [], false, false)
theorem okFind1 : FD X 36 hFind1 := FD.mk (H := []) (hk := []) (by kernel_rfl) .nil .nil (by
  intro ps R post hh
  obtain ⟨x, p, rfl, rfl, hp⟩ := hh
  rw [← vcFind1]
  exact hp)
theorem loopIxF : LD X 35 2 (loopHook (kpF 35 2) gIxF) :=
  LD.scan (H := [(36, hFind1)]) (hk := []) (by kernel_rfl) (by kernel_rfl) (.cons okFind1 .nil) .nil
    (A := List It × List UInt8) (fun a k => ixH a.1 (.fn 36 [.ref 0 0 0]) (a.1.length : Int) k (bxS a.2)) (·.1) it0 (fun a x => x.2.1 == a.2) (fun _ => True)
    (fun a i => ⟨19, [(1, .fn 36 [.ref 0 0 0]), (4, iD i)], bxS a.2⟩) (fun a => ⟨19, [(1, .fn 36 [.ref 0 0 0])], bxS a.2⟩)
    (by
      rintro ⟨l, p⟩ k post _ hm h0 hk hkn ht hf
      dsimp only at *
      rw [← vcIxF]
      simp only [List.length_map]
      rw [it_nth hkn it0]
      exact condT (decT hk) (oblP ⟨h0, hk⟩ (oblI (isIt _) ⟨_, p, rfl, rfl, condI (fun h => ht h) fun h => oblI (incI (by omega) (by omega)) (hf h)⟩)))
    (by
      rintro ⟨l, p⟩ k post _ hk hp
      dsimp only at *
      rw [← vcIxF]
      exact condF (decF hk) hp)
    (by
      rintro s post ⟨l, p, rfl, hm, h1, h2⟩
      exact ⟨(l, p), rfl, trivial, hm, h1, h2⟩)
theorem okIxF : FD X 35 hIxF := FD.mk (H := []) (hk := [(2, loopHook (kpF 35 2) gIxF)]) (by kernel_rfl) .nil (.cons loopIxF .nil) (by
  intro ps R post hh
  obtain ⟨l, p, rfl, rfl, hm, hp⟩ := hh
  rw [← vcIxFB]
  refine ⟨l, p, by rw [List.length_map], hm, fun i hi h0 => ?_, fun h => ?_⟩
  · rw [hi]; exact hp
  · rw [h] at hp; exact hp)
theorem okFindT : FD X 14 hFindT := FD.mk (H := [(35, hIxF)]) (hk := []) (by kernel_rfl) (.cons okIxF .nil) .nil (by
  intro ps R post hh
  obtain ⟨l, p, rfl, rfl, hm, hp⟩ := hh
  rw [← vcFind]
  exact ⟨l, p, rfl, rfl, hm, hp⟩)
theorem okCont : FD X 39 hCont := FD.ofX Tryz.func39 (by kernel_rfl) (by kernel_rfl) (by
  intro ps R post hh
  obtain ⟨s, c, rfl, rfl, hp⟩ := hh
  refine ⟨_, rfl, ?_⟩
  have e : decide (0 ≤ Lib.indexByte s c) = s.contains c := by
    exact (Go.Lib.contains_iff_indexByte s c).symm
  rw [← e] at hp
  exact hp)
theorem okSet1 : FD X 38 hSet1 := FD.mk (H := [(39, hCont)]) (hk := []) (by kernel_rfl) (.cons okCont .nil) .nil (by
  intro ps R post hh
  obtain ⟨x, rfl, rfl, hp⟩ := hh
  rw [← vcSet1]
  refine condI (fun h => leafBc hp ?_) fun h => ⟨_, _, rfl, rfl, leafBc hp ?_⟩
  · unfold unset; rw [h]; rfl
  · unfold unset; rw [h]; rfl)
theorem loopIxS : LD X 35 2 (loopHook (kpF 35 2) gIxS) :=
  LD.scan (H := [(38, hSet1)]) (hk := []) (by kernel_rfl) (by kernel_rfl) (.cons okSet1 .nil) .nil
    (A := List It) (fun a k => ixH a (.fn 38 []) (a.length : Int) k []) id it0 (fun _ x => unset x) (fun _ => True)
    (fun _ i => ⟨19, [(1, .fn 38 []), (4, iD i)], []⟩) (fun _ => ⟨19, [(1, .fn 38 [])], []⟩)
    (by
      rintro l k post _ hm h0 hk hkn ht hf
      simp only [id] at *
      rw [← vcIxS]
      simp only [List.length_map]
      rw [it_nth hkn it0]
      exact condT (decT hk) (oblP ⟨h0, hk⟩ (oblI (isIt _) ⟨_, rfl, rfl, condI (fun h => ht h) fun h => oblI (incI (by omega) (by omega)) (hf h)⟩)))
    (by
      rintro l k post _ hk hp
      simp only [id] at *
      rw [← vcIxS]
      exact condF (decF hk) hp)
    (by
      rintro s post ⟨l, rfl, hm, h1, h2⟩
      exact ⟨l, rfl, trivial, hm, h1, h2⟩)
theorem okIxS : FD X 35 hIxS := FD.mk (H := []) (hk := [(2, loopHook (kpF 35 2) gIxS)]) (by kernel_rfl) .nil (.cons loopIxS .nil) (by
  intro ps R post hh
  obtain ⟨l, rfl, rfl, hm, hp⟩ := hh
  rw [← vcIxSB]
  refine ⟨l, by rw [List.length_map], hm, fun i hi h0 => ?_, fun h => ?_⟩
  · rw [hi]; exact hp
  · rw [h] at hp; exact hp)
theorem idx_any {α : Type} (f : α → Bool) (l : List α) : decide (idxI f l ≥ 0) = l.any f := by
  rcases idxI_cases f l with ⟨i, x, h1, h2, h3⟩ | ⟨h1, h2⟩
  · rw [h3, List.any_eq_true.2 ⟨x, List.mem_of_getElem? h1, h2⟩]
    simp
  · rw [h1]
    cases h : l.any f with
    | false => rfl
    | true =>
      obtain ⟨x, hx, hf⟩ := List.any_eq_true.1 h
      rw [h2 x hx] at hf
      cases hf
theorem okCnS : FD X 37 hCnS := FD.mk (H := [(35, hIxS)]) (hk := []) (by kernel_rfl) (.cons okIxS .nil) .nil (by
  intro ps R post hh
  obtain ⟨l, rfl, rfl, hm, hp⟩ := hh
  rw [← vcCnS]
  exact ⟨l, rfl, rfl, hm, leafBc hp (idx_any unset l).symm⟩)
theorem okSettled : FD X 16 hSettled := FD.mk (H := [(37, hCnS)]) (hk := []) (by kernel_rfl) (.cons okCnS .nil) .nil (by
  intro ps R post hh
  obtain ⟨l, rfl, rfl, hm, hp⟩ := hh
  rw [← vcSet]
  exact ⟨l, rfl, rfl, hm, hp⟩)
theorem loopFdR : LD X 15 2 (loopHook (kpF 15 2) gFdR) :=
  LD.scan (H := []) (hk := []) (by kernel_rfl) (by kernel_rfl) .nil .nil
    (A := List It × List UInt8) (fun a k => fdH a.1 a.2 k) (·.1) it0 (fun a x => x.2.1 == a.2) (fun _ => True)
    (fun a i => ⟨20, [(4, iD i)], []⟩) (fun a => ⟨20, [], []⟩)
    (by
      rintro ⟨l, p⟩ k post _ hm h0 hk hkn ht hf
      dsimp only at *
      rw [← vcFdR]
      simp only [List.length_map]
      rw [it_nth hkn it0]
      exact condT (decT hk) (oblP ⟨h0, hk⟩ (oblI (isIt _) (condI (fun h => ht h) fun h => oblI (incI (by omega) (by omega)) (hf h)))))
    (by
      rintro ⟨l, p⟩ k post _ hk hp
      dsimp only at *
      rw [← vcFdR]
      simp only [List.length_map]
      exact condF (decF hk) hp)
    (by
      rintro s post ⟨l, p, rfl, hm, h1, h2⟩
      exact ⟨(l, p), rfl, trivial, hm, h1, h2⟩)
theorem okFindR : FD X 15 hFindT := FD.mk (H := []) (hk := [(2, loopHook (kpF 15 2) gFdR)]) (by kernel_rfl) .nil (.cons loopFdR .nil) (by
  intro ps R post hh
  obtain ⟨l, p, rfl, rfl, hm, hp⟩ := hh
  rw [← vcFdRB]
  refine ⟨l, p, rfl, hm, fun i hi h0 => ?_, fun h => ?_⟩
  · rw [hi]; exact hp
  · rw [h] at hp; exact hp)
theorem eqIx (x y : Id3) : (x.1 == y.1 && (x.2.1 == y.2.1 && true) && (x.2.2 == y.2.2 && true)) = (x == y) := by
  rw [Bool.eq_iff_iff]
  obtain ⟨a, b, c⟩ := x
  obtain ⟨d, e, f⟩ := y
  simp [and_assoc]
theorem loopF13 : LD X 22 2 (loopHook (kpF 22 2) gF13) :=
  LD.scan (H := []) (hk := []) (by kernel_rfl) (by kernel_rfl) .nil .nil
    (A := List Pl × Id3) (fun a k => f13H a.1 a.2 k) (·.1) pl0 (fun a p => p.1 == a.2) (fun _ => True)
    (fun a i => ⟨20, [(0, plsP a.1), (4, iD i)], []⟩) (fun a => ⟨20, [(0, plsP a.1)], []⟩)
    (by
      rintro ⟨l, x⟩ k post _ hm h0 hk hkn ht hf
      dsimp only at *
      rw [← vcF13]
      simp only [List.length_map]
      rw [pl_nth hkn]
      refine condT (decT hk) (oblP ⟨h0, hk⟩ (oblI (isPl _) (condI (fun h => ht ?_) fun h => oblI (incI (by omega) (by omega)) (hf ?_))))
      · rw [← eqIx]; exact h
      · rw [← eqIx]; exact h)
    (by
      rintro ⟨l, p⟩ k post _ hk hp
      dsimp only at *
      rw [← vcF13]
      simp only [List.length_map]
      exact condF (decF hk) hp)
    (by
      rintro s post ⟨l, p, rfl, hm, h1, h2⟩
      exact ⟨(l, p), rfl, trivial, hm, h1, h2⟩)
theorem okF13 : FD X 22 hF13 := FD.mk (H := []) (hk := [(2, loopHook (kpF 22 2) gF13)]) (by kernel_rfl) .nil (.cons loopF13 .nil) (by
  intro ps R post hh
  obtain ⟨l, x, rfl, rfl, hm, hp⟩ := hh
  rw [← vcF13B]
  refine ⟨l, x, rfl, hm, fun i hi h0 => ?_, fun h => ?_⟩
  · rw [hi]; exact hp
  · rw [h] at hp; exact hp)
theorem loopF13L : LD X 22 2 (loopHook (kpF 22 2) gF13L) :=
  LD.scan (H := []) (hk := []) (by kernel_rfl) (by kernel_rfl) .nil .nil
    (A := List Pl × Id3 × Bool) (fun a k => f13L a.2.2 a.1 a.1.length a.2.1 k) (·.1) pl0 (fun a p => p.1 == a.2.1) (fun _ => True)
    (fun a i => ⟨20, [(0, .sl 0 0 a.1.length), (4, iD i)], arL a.2.2 a.1⟩) (fun a => ⟨20, [(0, .sl 0 0 a.1.length)], arL a.2.2 a.1⟩)
    (by
      rintro ⟨l, x, z⟩ k post _ hm h0 hk hkn ht hf
      dsimp only at *
      rw [← vcF13L]
      rw [pl_nth hkn]
      refine condT (decT hk) (oblP ⟨h0, hk⟩ (oblI (decT (by rw [List.length_map]; exact hkn)) (oblI (isPl _) (condI (fun h => ht ?_) fun h => oblI (incI (by omega) (by omega)) (hf ?_)))))
      · rw [← eqIx]; exact h
      · rw [← eqIx]; exact h)
    (by
      rintro ⟨l, p, z⟩ k post _ hk hp
      dsimp only at *
      rw [← vcF13L]
      exact condF (decF hk) hp)
    (by
      rintro s post ⟨z, l, p, rfl, hm, h1, h2⟩
      exact ⟨(l, p, z), rfl, trivial, hm, h1, h2⟩)
theorem okF13L : FD X 22 hF13L := FD.mk (H := []) (hk := [(2, loopHook (kpF 22 2) gF13L)]) (by kernel_rfl) .nil (.cons loopF13L .nil) (by
  intro ps R post hh
  obtain ⟨z, l, x, rfl, rfl, hm, hp⟩ := hh
  rw [← vcF13LB]
  refine ⟨z, l, x, rfl, hm, fun i hi h0 => ?_, fun h => ?_⟩
  · rw [hi]; exact hp
  · rw [h] at hp; exact hp)
theorem idx_mem {α : Type} {f : α → Bool} {l : List α} : 0 ≤ idxI f l ↔ ∃ x ∈ l, f x = true := by
  rcases idxI_cases f l with ⟨i, x, h1, h2, h3⟩ | ⟨h1, h2⟩
  · rw [h3]
    exact ⟨fun _ => ⟨x, List.mem_of_getElem? h1, h2⟩, fun _ => by omega⟩
  · rw [h1]
    exact ⟨fun h => by omega, fun ⟨x, hx, hf⟩ => by rw [h2 x hx] at hf; cases hf⟩
theorem loopHas : LD X 21 2 (loopHook (kpF 21 2) gHas) :=
  LD.scan (H := []) (hk := []) (by kernel_rfl) (by kernel_rfl) .nil .nil
    (A := List Id3 × Id3) (fun a k => hsH a.1 a.2 k) (·.1) (0, 0, 0) (fun a p => p == a.2) (fun _ => True)
    (fun a i => ⟨18, [(4, .d (.bool true))], []⟩) (fun a => ⟨18, [], []⟩)
    (by
      rintro ⟨l, x⟩ k post _ hm h0 hk hkn ht hf
      dsimp only at *
      rw [← vcHas]
      simp only [List.length_map]
      rw [ix_nth hkn]
      refine condT (decT hk) (oblP ⟨h0, hk⟩ (oblI (isIx _) (condI (fun h => ht ?_) fun h => oblI (incI (by omega) (by omega)) (hf ?_))))
      · rw [← eqIx]; exact h
      · rw [← eqIx]; exact h)
    (by
      rintro ⟨l, p⟩ k post _ hk hp
      dsimp only at *
      rw [← vcHas]
      simp only [List.length_map]
      exact condF (decF hk) hp)
    (by
      rintro s post ⟨l, x, rfl, hm, h1, h2⟩
      refine ⟨(l, x), rfl, trivial, hm, fun i hi h0 => h1 ?_, fun h => h2 fun hx => ?_⟩
      · rw [hi] at h0
        obtain ⟨y, hy, he⟩ := idx_mem.1 h0
        have : y = x := by simpa using he
        exact this ▸ hy
      · have : 0 ≤ idxI (fun p => p == x) l := idx_mem.2 ⟨x, hx, by simp⟩
        dsimp only at h
        omega)
theorem okHas : FD X 21 hHas := FD.mk (H := []) (hk := [(2, loopHook (kpF 21 2) gHas)]) (by kernel_rfl) .nil (.cons loopHas .nil) (by
  intro ps R post hh
  obtain ⟨l, x, rfl, rfl, hm, hp⟩ := hh
  rw [← vcHasB]
  exact ⟨l, x, rfl, hm, fun h => leafBc hp (by simp [h]), fun h => leafBc hp (by simp [h])⟩)
theorem eqIt (x y : It) : (x.1.1 == y.1.1 && (x.1.2.1 == y.1.2.1 && true) && (x.1.2.2 == y.1.2.2 && true) && (x.2.1 == y.2.1 && (x.2.2.1 == y.2.2.1 && (x.2.2.2 == y.2.2.2 && true)))) = decide (x = y) := by
  rw [Bool.eq_iff_iff]
  obtain ⟨⟨a, b, c⟩, d, e, f⟩ := x
  obtain ⟨⟨a', b', c'⟩, d', e', f'⟩ := y
  simp [and_assoc]
theorem loopSmI : LD X 11 4 (loopHook (kpF 11 4) gSmI) :=
  LD.scan (H := []) (hk := []) (by kernel_rfl) (by kernel_rfl) .nil .nil
    (A := List It × List It) (fun a k => smH a.1 a.2 k) (fun a => a.1.zip a.2) (it0, it0) (fun _ p => decide (p.1 ≠ p.2)) (fun a => a.1.length = a.2.length)
    (fun a i => ⟨26, [(4, .d (.bool false))], []⟩) (fun a => ⟨26, [], []⟩)
    (by
      rintro ⟨l, m⟩ k post he hm h0 hk hkn ht hf
      dsimp only at *
      rw [← vcSmI]
      rw [List.length_zip] at hk hkn hm
      have hz : (l.zip m).getD k.toNat (it0, it0) = (l.getD k.toNat it0, m.getD k.toNat it0) := by
        simp only [List.getD_eq_getElem?_getD]
        rw [List.getElem?_eq_getElem (by rw [List.length_zip]; omega), List.getElem?_eq_getElem (by omega), List.getElem?_eq_getElem (by omega), List.getElem_zip]
        rfl
      rw [hz] at ht hf
      simp only [List.length_map]
      rw [it_nth (by omega) it0, it_nth (by omega) it0]
      refine condT (decT (by omega)) (oblP ⟨h0, by omega⟩ (oblI (isIt _) (oblP ⟨h0, by omega⟩ (oblI (isIt _) (condI (fun h => ht ?_) fun h => oblI (incI (by omega) (by omega)) (hf ?_))))))
      · have := eqIt (l.getD k.toNat it0) (m.getD k.toNat it0)
        have h' : (!decide (l.getD k.toNat it0 = m.getD k.toNat it0)) = true := by rw [← this]; exact h
        simpa using h'
      · have := eqIt (l.getD k.toNat it0) (m.getD k.toNat it0)
        have h' : (!decide (l.getD k.toNat it0 = m.getD k.toNat it0)) = false := by rw [← this]; exact h
        simpa using h')
    (by
      rintro ⟨l, m⟩ k post he hk hp
      dsimp only at *
      rw [← vcSmI]
      rw [List.length_zip] at hk
      simp only [List.length_map]
      exact condF (decF (by omega)) hp)
    (by
      rintro s post ⟨l, m, rfl, ⟨he, hm⟩, h1, h2⟩
      refine ⟨(l, m), rfl, he, by show (l.zip m).length ≤ _; rw [List.length_zip]; omega, fun i hi h0 => h1 ?_, fun h => h2 ?_⟩
      · rw [hi] at h0
        obtain ⟨y, hy, hne⟩ := idx_mem.1 h0
        rintro rfl
        obtain ⟨j, hj, hjy⟩ := List.getElem_of_mem hy
        rw [List.getElem_zip] at hjy
        rw [← hjy] at hne
        simp at hne
      · refine List.ext_getElem he fun j hj hj' => ?_
        have hz : (l.zip m)[j]'(by rw [List.length_zip]; omega) ∈ l.zip m := List.getElem_mem _
        rw [List.getElem_zip] at hz
        have hno : ¬ 0 ≤ idxI (fun p : It × It => decide (p.1 ≠ p.2)) (l.zip m) := by dsimp only at h; omega
        refine Classical.byContradiction fun hc => hno (idx_mem.2 ⟨_, hz, by simpa using hc⟩))
theorem okSameI : FD X 11 hSameI := FD.mk (H := []) (hk := [(4, loopHook (kpF 11 4) gSmI)]) (by kernel_rfl) .nil (.cons loopSmI .nil) (by
  intro ps R post hh
  obtain ⟨l, m, rfl, rfl, hm, hp⟩ := hh
  rw [← vcSmIB]
  simp only [List.length_map]
  refine condN (fun h => leafBc hp ?_) fun h => ⟨l, m, rfl, ⟨by omega, hm⟩, fun hne => leafBc hp (by simp [hne]), fun he => leafBc hp (by simp [he])⟩
  rw [decide_eq_false]
  rintro rfl
  exact h rfl)
end
end Pi

/- Tree: the document's answer: what the runs ask. -/
namespace Pi
open Go Go.Proofs
set_option maxRecDepth 100000
set_option maxHeartbeats 0
abbrev wiL (z : Bool) (l : List Pl) (n : Nat) (x y : Id3) (k : Int) : S := ⟨28, [(0, .sl 0 0 n), (4, .ref 1 0 0), (5, .ref 2 0 0), (7, iD k)], arL z l ++ bxI 1 x ++ bxI 2 y⟩
def gWiL : S → K (PX × S) := fun s post => ∃ z l x y, s = wiL z l l.length x y 0 ∧ l.length ≤ 1000000 ∧ (∀ b, b = within l x y → post (.ret, ⟨28, [(0, .sl 0 0 l.length), (6, .d (.bool b))], arL z l⟩)) ∧ (within l x y = true → post (.exit 0, ⟨28, [(0, .sl 0 0 l.length)], arL z l⟩))
theorem vcWiL (z : Bool) (l : List Pl) (n : Nat) (x y : Id3) (k : Int) (post : PX × S → Prop) : (bif decide (k ≤ (↑n : Int)) then bif Prod.fst x == Prod.fst y && (Prod.fst (Prod.snd x) == Prod.fst (Prod.snd y) && true) && (Prod.snd (Prod.snd x) == Prod.snd (Prod.snd y) && true) then post (PX.ret, S.mk 28 [(0, P.sl 0 0 n), (6, P.d (D.bool true))] [(0, En.mk 0 (some 0) (Obj.arr 47 z (List.map plD l)))]) else ∃ (z_1 : Bool), ∃ (l_1 : List Pl), ∃ (x_1 : Id3), [P.sl 0 0 n, P.d (D.agg [D.int IntKind.i64 (Prod.fst x), D.int IntKind.i64 (Prod.fst (Prod.snd x)), D.int IntKind.i64 (Prod.snd (Prod.snd x))])] = [P.sl 0 0 (List.length l_1), P.d (D.agg [D.int IntKind.i64 (Prod.fst x_1), D.int IntKind.i64 (Prod.fst (Prod.snd x_1)), D.int IntKind.i64 (Prod.snd (Prod.snd x_1))])] ∧ [(0, En.mk 0 (some 0) (Obj.arr 47 z (List.map plD l)))] = [(0, En.mk 0 (some 0) (Obj.arr 47 z_1 (List.map plD l_1)))] ∧ List.length l_1 ≤ 1000000 ∧ bif decide (at13 l_1 x_1 < (0 : Int)) then post (PX.ret, S.mk 28 [(0, P.sl 0 0 n), (6, P.d (D.bool false))] [(0, En.mk 0 (some 0) (Obj.arr 47 z_1 (List.map plD l_1)))]) else bif decide ((0 : Int) ≤ at13 l_1 x_1 ∧ at13 l_1 x_1 < (↑n : Int)) then bif decide (Int.toNat (at13 l_1 x_1) < List.length (List.map plD l_1)) then bif isD PR (47 : TypeId) (D.nth (List.map plD l_1) (Int.toNat (at13 l_1 x_1))) then bif decide ((-9223372036854775808 : Int) ≤ k + (1 : Int) ∧ k + (1 : Int) ≤ (9223372036854775807 : Int)) then post (PX.normal, S.mk 28 [(0, P.sl 0 0 n), (4, P.ref 1 0 0), (5, P.ref 2 0 0), (7, P.d (D.int IntKind.i64 (k + (1 : Int))))] [(0, En.mk 0 (some 0) (Obj.arr 47 z_1 (List.map plD l_1))), (1, En.mk 0 none (Obj.box 41 [P.d (D.int IntKind.i64 (D.iVal (D.cAt (D.nth (List.map plD l_1) (Int.toNat (at13 l_1 x_1))) 3))), P.d (D.int IntKind.i64 (D.iVal (D.cAt (D.nth (List.map plD l_1) (Int.toNat (at13 l_1 x_1))) 4))), P.d (D.int IntKind.i64 (D.iVal (D.cAt (D.nth (List.map plD l_1) (Int.toNat (at13 l_1 x_1))) 5)))])), (2, En.mk 0 none (Obj.box 41 [P.d (D.int IntKind.i64 (Prod.fst y)), P.d (D.int IntKind.i64 (Prod.fst (Prod.snd y))), P.d (D.int IntKind.i64 (Prod.snd (Prod.snd y)))]))]) else False else False else False else False else post (PX.exit 0, S.mk 28 [(0, P.sl 0 0 n)] [(0, En.mk 0 (some 0) (Obj.arr 47 z (List.map plD l)))])) = (roundL [(22, hF13L)] [] 57 2 (wiL z l n x y k)) post := by kernel_rfl
theorem vcWiLB (z : Bool) (l : List Pl) (n : Nat) (x y : Id3) (post : P × List (Nat × En) → Prop) : (∃ (z_1 : Bool), ∃ (l_1 : List Pl), ∃ (x_1 : Id3), ∃ (y_1 : Id3), S.mk 28 [(0, P.sl 0 0 n), (4, P.ref 1 0 0), (5, P.ref 2 0 0), (7, P.d (D.int IntKind.i64 (0 : Int)))] [(0, En.mk 0 (some 0) (Obj.arr 47 z (List.map plD l))), (1, En.mk 0 none (Obj.box 41 [P.d (D.int IntKind.i64 (Prod.fst x)), P.d (D.int IntKind.i64 (Prod.fst (Prod.snd x))), P.d (D.int IntKind.i64 (Prod.snd (Prod.snd x)))])), (2, En.mk 0 none (Obj.box 41 [P.d (D.int IntKind.i64 (Prod.fst y)), P.d (D.int IntKind.i64 (Prod.fst (Prod.snd y))), P.d (D.int IntKind.i64 (Prod.snd (Prod.snd y)))]))] = S.mk 28 [(0, P.sl 0 0 (List.length l_1)), (4, P.ref 1 0 0), (5, P.ref 2 0 0), (7, P.d (D.int IntKind.i64 (0 : Int)))] [(0, En.mk 0 (some 0) (Obj.arr 47 z_1 (List.map plD l_1))), (1, En.mk 0 none (Obj.box 41 [P.d (D.int IntKind.i64 (Prod.fst x_1)), P.d (D.int IntKind.i64 (Prod.fst (Prod.snd x_1))), P.d (D.int IntKind.i64 (Prod.snd (Prod.snd x_1)))])), (2, En.mk 0 none (Obj.box 41 [P.d (D.int IntKind.i64 (Prod.fst y_1)), P.d (D.int IntKind.i64 (Prod.fst (Prod.snd y_1))), P.d (D.int IntKind.i64 (Prod.snd (Prod.snd y_1)))]))] ∧ List.length l_1 ≤ 1000000 ∧ (∀ (b : Bool), b = within l_1 x_1 y_1 → post (P.d (D.bool b), [(0, En.mk 0 (some 0) (Obj.arr 47 z_1 (List.map plD l_1)))])) ∧ (within l_1 x_1 y_1 = true → post (P.d (D.bool true), [(0, En.mk 0 (some 0) (Obj.arr 47 z_1 (List.map plD l_1)))]))) = (bodyF [] [(2, loopHook (kpF 57 2) gWiL)] 57 [.sl 0 0 n, .d (ixD x), .d (ixD y)] (arL z l)) post := by kernel_rfl
def hWiL : KF1 := fun ps R post => ∃ z l x y, ps = [.sl 0 0 l.length, .d (ixD x), .d (ixD y)] ∧ R = arL z l ∧ l.length ≤ 1000000 ∧ ∀ b, b = within l x y → post (.d (.bool b), arL z l)
/-! rooted -/
abbrev roH (l : List Pl) (x : Id3) (k : Int) : S := ⟨39, [(0, plsP l), (3, .ref 0 0 0), (5, iD k)], bxI 0 x⟩
def gRo : S → K (PX × S) := fun s post => ∃ l x, s = roH l x 0 ∧ l.length ≤ 1000000 ∧ (∀ b, b = rooted l x → post (.ret, ⟨39, [(4, .d (.bool b))], []⟩)) ∧ (rooted l x = false → post (.exit 0, ⟨39, [], []⟩))
def vcRo_0 (l : List Pl) : Int := (↑(List.length (List.map plD l)) : Int)
def vcRo_1 (l : List Pl) : P := P.d (D.sl 8 (List.map plD l))
def vcRo_2 (l : List Pl) (v0 : List Pl) (v1 : Id3) : D := D.nth (List.map plD l) (Int.toNat (at13 v0 v1))
def vcRo_3 (l : List Pl) (v0 : List Pl) (v1 : Id3) : D := D.int IntKind.i64 (D.iVal (D.cAt (vcRo_2 l v0 v1) 3))
def vcRo_4 (l : List Pl) (v0 : List Pl) (v1 : Id3) : D := D.int IntKind.i64 (D.iVal (D.cAt (vcRo_2 l v0 v1) 4))
def vcRo_5 (l : List Pl) (v0 : List Pl) (v1 : Id3) : D := D.int IntKind.i64 (D.iVal (D.cAt (vcRo_2 l v0 v1) 5))
def vcRo_6 (k : Int) : Int := k + (1 : Int)
theorem vcRo (l : List Pl) (x : Id3) (k : Int) (post : PX × S → Prop) : (bif decide (k ≤ vcRo_0 l) then ∃ (l_1 : List Pl), ∃ (x_1 : Id3), [vcRo_1 l, P.d (D.agg [D.int IntKind.i64 (Prod.fst x), D.int IntKind.i64 (Prod.fst (Prod.snd x)), D.int IntKind.i64 (Prod.snd (Prod.snd x))])] = [P.d (D.sl 8 (List.map plD l_1)), P.d (D.agg [D.int IntKind.i64 (Prod.fst x_1), D.int IntKind.i64 (Prod.fst (Prod.snd x_1)), D.int IntKind.i64 (Prod.snd (Prod.snd x_1))])] ∧ EqR [] [] ∧ List.length l_1 ≤ 1000000 ∧ bif decide (at13 l_1 x_1 < (0 : Int)) then post (PX.ret, S.mk 39 [(4, P.d (D.bool false))] []) else bif decide ((0 : Int) ≤ at13 l_1 x_1 ∧ at13 l_1 x_1 < vcRo_0 l) then bif isD PR (47 : TypeId) (vcRo_2 l l_1 x_1) then bif D.iVal (D.cAt (vcRo_2 l l_1 x_1) 3) == (0 : Int) && (D.iVal (D.cAt (vcRo_2 l l_1 x_1) 4) == (0 : Int) && true) && (D.iVal (D.cAt (vcRo_2 l l_1 x_1) 5) == (0 : Int) && true) then post (PX.ret, S.mk 39 [(4, P.d (D.bool true))] []) else ∃ (l_2 : List Pl), ∃ (x : Id3), [vcRo_1 l, P.d (D.agg [vcRo_3 l l_1 x_1, vcRo_4 l l_1 x_1, vcRo_5 l l_1 x_1])] = [P.d (D.sl 8 (List.map plD l_2)), P.d (D.agg [D.int IntKind.i64 (Prod.fst x), D.int IntKind.i64 (Prod.fst (Prod.snd x)), D.int IntKind.i64 (Prod.snd (Prod.snd x))])] ∧ EqR [] [] ∧ List.length l_2 ≤ 1000000 ∧ bif decide (at13 l_2 x < (0 : Int)) then post (PX.ret, S.mk 39 [(4, P.d (D.bool false))] []) else bif decide ((0 : Int) ≤ at13 l_2 x ∧ at13 l_2 x < vcRo_0 l) then bif isD PR (47 : TypeId) (D.nth (List.map plD l) (Int.toNat (at13 l_2 x))) then bif !D.bVal (D.cAt (D.nth (List.map plD l) (Int.toNat (at13 l_2 x))) 7) then post (PX.ret, S.mk 39 [(4, P.d (D.bool false))] []) else bif decide ((-9223372036854775808 : Int) ≤ vcRo_6 k ∧ vcRo_6 k ≤ (9223372036854775807 : Int)) then post (PX.normal, S.mk 39 [(0, vcRo_1 l), (3, P.ref 0 0 0), (5, P.d (D.int IntKind.i64 (vcRo_6 k)))] [(0, En.mk 0 none (Obj.box (41 : TypeId) [P.d (vcRo_3 l l_1 x_1), P.d (vcRo_4 l l_1 x_1), P.d (vcRo_5 l l_1 x_1)]))]) else False else False else False else False else False else post (PX.exit 0, S.mk 39 [] [])) = (roundL [(22, hF13)] [] 20 2 (roH l x k)) post := by kernel_rfl
theorem vcRoB (l : List Pl) (x : Id3) (post : P × List (Nat × En) → Prop) : (∃ (l_1 : List Pl), ∃ (x_1 : Id3), S.mk 39 [(0, P.d (D.sl 8 (List.map plD l))), (3, P.ref 0 0 0), (5, P.d (D.int IntKind.i64 (0 : Int)))] [(0, En.mk 0 none (Obj.box 41 [P.d (D.int IntKind.i64 (Prod.fst x)), P.d (D.int IntKind.i64 (Prod.fst (Prod.snd x))), P.d (D.int IntKind.i64 (Prod.snd (Prod.snd x)))]))] = S.mk 39 [(0, P.d (D.sl 8 (List.map plD l_1))), (3, P.ref 0 0 0), (5, P.d (D.int IntKind.i64 (0 : Int)))] [(0, En.mk 0 none (Obj.box 41 [P.d (D.int IntKind.i64 (Prod.fst x_1)), P.d (D.int IntKind.i64 (Prod.fst (Prod.snd x_1))), P.d (D.int IntKind.i64 (Prod.snd (Prod.snd x_1)))]))] ∧ List.length l_1 ≤ 1000000 ∧ (∀ (b : Bool), b = rooted l_1 x_1 → post (P.d (D.bool b), [])) ∧ (rooted l_1 x_1 = false → post (P.d (D.bool false), []))) = (bodyF [] [(2, loopHook (kpF 20 2) gRo)] 20 [plsP l, .d (ixD x)] []) post := by kernel_rfl
def hRo : KF1 := fun ps R post => ∃ l x, ps = [plsP l, .d (ixD x)] ∧ R = [] ∧ l.length ≤ 1000000 ∧ ∀ b, b = rooted l x → post (.d (.bool b), [])
inductive SeenAt (T : List Pl) (V : List Id3) (x : Id3) (p : Pl) : Prop
  | mk (h1 : marked T V x = true) (h2 : atPl T x = some p)
end Pi

/- Tree: the document's answer. -/
namespace Pi
open Go Go.Proofs
set_option maxRecDepth 100000
theorem at13_none {l : List Pl} {x : Id3} (h : atPl l x = none) : at13 l x = -1 := by
  refine idxI_no fun p hp => ?_
  unfold atPl at h
  simpa using List.find?_eq_none.1 h p hp
theorem at13_some {l : List Pl} {x : Id3} {p : Pl} (h : atPl l x = some p) : ∃ i : Nat, at13 l x = (i : Int) ∧ i < l.length ∧ l.getD i pl0 = p := by
  unfold atPl at h
  obtain ⟨h1, i, hi, h2, h3⟩ := List.find?_eq_some_iff_getElem.1 h
  refine ⟨i, idxI_yes (x := p) (by rw [List.getElem?_eq_getElem hi, h2]) h1 fun y hy => ?_, hi, ?_⟩
  · obtain ⟨j, hj, rfl⟩ := List.getElem_of_mem hy
    rw [List.getElem_take]
    rw [List.length_take] at hj
    simpa using h3 j (by omega)
  · rw [List.getD_eq_getElem?_getD, List.getElem?_eq_getElem hi]
    exact h2
section
variable {X : XF}
theorem ixEq {x y : Id3} (h : (x.1 == y.1 && (x.2.1 == y.2.1 && true) && (x.2.2 == y.2.2 && true)) = true) : x = y := by
  rw [eqIx] at h
  simpa using h
theorem ixNe {x y : Id3} (h : (x.1 == y.1 && (x.2.1 == y.2.1 && true) && (x.2.2 == y.2.2 && true)) = false) : x ≠ y := by
  rw [eqIx] at h
  simpa using h
theorem loopWiL : LD X 57 2 (loopHook (kpF 57 2) gWiL) := LD.par (H := [(22, hF13L)]) (hk := []) (by kernel_rfl) (by kernel_rfl) (.cons okF13L .nil) .nil
  (A := List Pl × Id3 × Id3 × Bool) (B := Id3 × Int) (fun a b => wiL a.2.2.2 a.1 a.1.length b.1 a.2.2.1 b.2)
  (fun a b => a.1.length ≤ 1000000 ∧ 0 ≤ b.2 ∧ b.2 ≤ a.1.length + 1 ∧ withinF a.1 (a.1.length + 1 - b.2.toNat) b.1 a.2.2.1 = within a.1 a.2.1 a.2.2.1)
  (fun a b => a.1.length + 1 - b.2.toNat)
  (fun a r => (r = (.ret, ⟨28, [(0, .sl 0 0 a.1.length), (6, .d (.bool (within a.1 a.2.1 a.2.2.1)))], arL a.2.2.2 a.1⟩)) ∨ (within a.1 a.2.1 a.2.2.1 = true ∧ r = (.exit 0, ⟨28, [(0, .sl 0 0 a.1.length)], arL a.2.2.2 a.1⟩)))
  (by
    rintro ⟨l, x0, y, z⟩ ⟨x, k⟩ ⟨hm, h0, hk, hw⟩
    dsimp only at *
    rw [← vcWiL]
    refine condP (fun h => ?_) fun h => ?_
    · obtain ⟨n, hn⟩ : ∃ n, l.length + 1 - k.toNat = n + 1 := ⟨l.length - k.toNat, by omega⟩
      rw [hn] at hw
      simp only [withinF] at hw
      refine condI (fun he => ?_) fun he => ⟨z, l, x, rfl, rfl, hm, ?_⟩
      · rw [if_pos (ixEq he)] at hw
        left
        rw [← hw]
      · rw [if_neg (ixNe he)] at hw
        cases hp : atPl l x with
        | none =>
          rw [hp] at hw
          rw [at13_none hp]
          refine condT (decT (by decide)) (.inl ?_)
          simp only at hw
          rw [← hw]
        | some p =>
          rw [hp] at hw
          obtain ⟨i, hi, hil, hip⟩ := at13_some hp
          rw [hi]
          simp only [Int.toNat_natCast]
          rw [pl_nth hil, hip]
          refine condF (decF (by omega)) (oblP ⟨by omega, by omega⟩ (oblI (decT (by rw [List.length_map]; exact hil)) (oblI (isPl p) (oblI (incI (by omega) (by omega)) ⟨l.length + 1 - (k + 1).toNat, by omega, (p.2.1, k + 1), rfl, ⟨hm, by simp only; omega, by simp only; omega, ?_⟩, rfl⟩))))
          simp only
          rw [show l.length + 1 - (k + 1).toNat = n by omega]
          exact hw
    · have : l.length + 1 - k.toNat = 0 := by omega
      rw [this] at hw
      exact .inr ⟨hw.symm, rfl⟩)
  (by
    rintro s post ⟨z, l, x, y, rfl, hm, h1, h2⟩
    refine ⟨(l, x, y, z), (x, 0), rfl, ⟨hm, by simp, by simp only; omega, rfl⟩, ?_⟩
    rintro r (rfl | ⟨h3, rfl⟩)
    · exact h1 _ rfl
    · exact h2 h3)
theorem okWiL : FD X 57 hWiL := FD.mk (H := []) (hk := [(2, loopHook (kpF 57 2) gWiL)]) (by kernel_rfl) .nil (.cons loopWiL .nil) (by
  intro ps R post hh
  obtain ⟨z, l, x, y, rfl, rfl, hm, hp⟩ := hh
  rw [← vcWiLB]
  exact ⟨z, l, x, y, rfl, hm, fun b hb => hp b hb, fun h => hp true h.symm⟩)
theorem loopRo : LD X 20 2 (loopHook (kpF 20 2) gRo) := LD.par (H := [(22, hF13)]) (hk := []) (by kernel_rfl) (by kernel_rfl) (.cons okF13 .nil) .nil
  (A := List Pl × Id3) (B := Id3 × Int) (fun a b => roH a.1 b.1 b.2)
  (fun a b => a.1.length ≤ 1000000 ∧ 0 ≤ b.2 ∧ b.2 ≤ a.1.length + 1 ∧ rootF a.1 (a.1.length + 1 - b.2.toNat) b.1 = rooted a.1 a.2)
  (fun a b => a.1.length + 1 - b.2.toNat)
  (fun a r => (r = (.ret, ⟨39, [(4, .d (.bool (rooted a.1 a.2)))], []⟩)) ∨ (rooted a.1 a.2 = false ∧ r = (.exit 0, ⟨39, [], []⟩)))
  (by
    rintro ⟨l, x0⟩ ⟨x, k⟩ ⟨hm, h0, hk, hw⟩
    dsimp only at *
    (rw [← vcRo]; delta vcRo_0 vcRo_1 vcRo_2 vcRo_3 vcRo_4 vcRo_5 vcRo_6)
    simp only [List.length_map]
    refine condP (fun h => ?_) fun h => ?_
    · obtain ⟨n, hn⟩ : ∃ n, l.length + 1 - k.toNat = n + 1 := ⟨l.length - k.toNat, by omega⟩
      rw [hn] at hw
      simp only [rootF] at hw
      refine ⟨l, x, rfl, rfl, hm, ?_⟩
      cases hp : atPl l x with
      | none =>
        rw [hp] at hw
        rw [at13_none hp]
        refine condT (decT (by decide)) (.inl ?_)
        simp only at hw
        rw [← hw]
      | some p =>
        rw [hp] at hw
        simp only at hw
        obtain ⟨i, hi, hil, hip⟩ := at13_some hp
        rw [hi]
        simp only [Int.toNat_natCast]
        rw [pl_nth hil, hip]
        refine condF (decF (by omega)) (oblP ⟨by omega, by omega⟩ (oblI (isPl p) (condI (fun he => ?_) fun he => ⟨l, p.2.1, rfl, rfl, hm, ?_⟩)))
        · rw [if_pos (ixEq (y := rootId) he)] at hw
          left
          rw [← hw]
        · rw [if_neg (ixNe (y := rootId) he)] at hw
          cases hq : atPl l p.2.1 with
          | none =>
            rw [hq] at hw
            rw [at13_none hq]
            refine condT (decT (by decide)) (.inl ?_)
            simp only at hw
            rw [← hw]
          | some q =>
            rw [hq] at hw
            simp only at hw
            obtain ⟨j, hj, hjl, hjq⟩ := at13_some hq
            rw [hj]
            simp only [Int.toNat_natCast]
            rw [pl_nth hjl, hjq]
            refine condF (decF (by omega)) (oblP ⟨by omega, by omega⟩ (oblI (isPl q) (condI (fun hd => ?_) fun hd => oblI (incI (by omega) (by omega)) ⟨l.length + 1 - (k + 1).toNat, by omega, (p.2.1, k + 1), rfl, ⟨hm, by simp only; omega, by simp only; omega, ?_⟩, rfl⟩)))
            · have hd' : (!q.2.2.2) = true := hd
              rw [if_pos (by simpa using hd')] at hw
              left
              rw [← hw]
            · have hd' : (!q.2.2.2) = false := hd
              rw [if_neg (by simpa using hd')] at hw
              simp only
              rw [show l.length + 1 - (k + 1).toNat = n by omega]
              exact hw
    · have : l.length + 1 - k.toNat = 0 := by omega
      rw [this] at hw
      exact .inr ⟨hw.symm, rfl⟩)
  (by
    rintro s post ⟨l, x, rfl, hm, h1, h2⟩
    refine ⟨(l, x), (x, 0), rfl, ⟨hm, by simp, by simp only; omega, rfl⟩, ?_⟩
    rintro r (rfl | ⟨h3, rfl⟩)
    · exact h1 _ rfl
    · exact h2 h3)
theorem okRo : FD X 20 hRo := FD.mk (H := []) (hk := [(2, loopHook (kpF 20 2) gRo)]) (by kernel_rfl) .nil (.cons loopRo .nil) (by
  intro ps R post hh
  obtain ⟨l, x, rfl, rfl, hm, hp⟩ := hh
  rw [← vcRoB]
  exact ⟨l, x, rfl, hm, fun b hb => hp b hb, fun h => hp false h.symm⟩)
end
end Pi

/- Tree: the document's answer: who is seen, the items. -/
namespace Pi
open Go Go.Proofs
set_option maxRecDepth 100000
/-- Two that change places. -/
theorem swap_set {α β : Type} (f : α → β) (pre suf : List α) (b a : α) (u v : β) (hu : u = f b) (hv : v = f a) : (((pre ++ b :: a :: suf).map f).set (pre.length + 1) u).set pre.length v = (pre ++ a :: b :: suf).map f := by
  subst hu
  subst hv
  simp
section
variable {X : XF}
end
end Pi

/- Tree: the laws: what the runs ask. -/
namespace Pi
open Go Go.Proofs
set_option maxRecDepth 100000
set_option maxHeartbeats 0
def hAwake15 : KF1 := fun ps R post => ps = [] ∧ R = [] ∧ post (.d (.bool true), [])
def vcAw15_0  : D := D.int IntKind.i64 (1 : Int)
def vcAw15_1  : D := D.int IntKind.i64 (0 : Int)
def vcAw15_2  : List D := [vcAw15_0, vcAw15_1, vcAw15_0, vcAw15_0, vcAw15_1, D.str [(102 : UInt8)], D.bool false]
def vcAw15_3 (v0 : List Pl) (v1 : List Id3) : P := P.d (D.sl 6 (List.take (List.length (itemsX (tkL v0) (lvL v1))) (List.map itmD (itemsX (tkL v0) (lvL v1)))))
def vcAw15_4  : D := D.str [(47 : UInt8), (100 : UInt8), (47 : UInt8), (102 : UInt8)]
theorem vcAw15  (post : P × List (Nat × En) → Prop) : (∃ (l : List Pl), ∃ (live : List Id3), [P.d (D.sl 8 [D.agg [vcAw15_0, vcAw15_0, vcAw15_1, vcAw15_1, vcAw15_1, vcAw15_1, D.str [(100 : UInt8)], D.bool true], D.agg (D.int IntKind.i64 (2 : Int) :: vcAw15_2), D.agg (D.int IntKind.i64 (3 : Int) :: vcAw15_2)]), P.d (D.sl 3 [D.agg [D.int IntKind.i64 (2 : Int), vcAw15_0, vcAw15_1], D.agg [D.int IntKind.i64 (3 : Int), vcAw15_0, vcAw15_1]])] = [P.d (D.sl 8 (List.map plD l)), P.d (D.sl 3 (List.map ixD live))] ∧ EqR [] [] ∧ (List.length l ≤ 1000 ∧ List.length live ≤ 1000) ∧ ∃ (l_1 : List It), ∃ (m : List It), [vcAw15_3 l live, P.d (D.sl 6 [D.agg [vcAw15_0, vcAw15_0, vcAw15_1, D.str [(47 : UInt8), (100 : UInt8)], D.bool true, D.bool true], D.agg [D.int IntKind.i64 (2 : Int), vcAw15_0, vcAw15_1, vcAw15_4, D.bool false, D.bool false], D.agg [D.int IntKind.i64 (3 : Int), vcAw15_0, vcAw15_1, D.str [(47 : UInt8), (100 : UInt8), (47 : UInt8), (102 : UInt8), (126 : UInt8), (51 : UInt8), (46 : UInt8), (49 : UInt8), (46 : UInt8), (48 : UInt8)], D.bool false, D.bool false]])] = [P.d (D.sl 6 (List.map itmD l_1)), P.d (D.sl 6 (List.map itmD m))] ∧ EqR [] [] ∧ List.length l_1 ≤ 1000000 ∧ bif decide (l_1 = m) then ∃ (l_2 : List It), ∃ (p : List UInt8), [vcAw15_3 l live, P.d vcAw15_4] = [P.d (D.sl 6 (List.map itmD l_2)), P.d (D.str p)] ∧ EqR [] [] ∧ List.length l_2 ≤ 1000000 ∧ bif idxI (fun (x : It) => Prod.fst (Prod.snd x) == p) l_2 == (1 : Int) then ∃ (l_3 : List It), [vcAw15_3 l live] = [P.d (D.sl 6 (List.map itmD l_3))] ∧ EqR [] [] ∧ List.length l_3 ≤ 1000000 ∧ post (P.d (D.bool !!List.any l_3 unset), []) else post (P.d (D.bool false), []) else post (P.d (D.bool false), [])) = (bodyF [(12, hItems), (11, hSameI), (14, hFindT), (16, hSettled)] [] 10 [] []) post := by kernel_rfl
/-! parent, paths -/
abbrev prH (s : List UInt8) (k : Int) : S := ⟨18, [(0, sD s), (3, iD k)], []⟩
theorem vcPrH (s : List UInt8) (k : Int) (post : PX × S → Prop) : (bif decide (k > (0 : Int)) then bif decide ((0 : Int) ≤ k ∧ k < (↑(List.length s) : Int)) then bif (↑(UInt8.toNat (List.getD s (Int.toNat k) (0 : UInt8))) : Int) == (47 : Int) then bif decide ((0 : Int) ≤ k ∧ k ≤ (↑(List.length s) : Int)) then post (PX.ret, S.mk 18 [(2, P.d (D.str (List.drop 0 (List.take (Int.toNat k) s))))] []) else False else bif decide ((-9223372036854775808 : Int) ≤ k - (1 : Int) ∧ k - (1 : Int) ≤ (9223372036854775807 : Int)) then post (PX.normal, S.mk 18 [(0, P.d (D.str s)), (3, P.d (D.int IntKind.i64 (k - (1 : Int))))] []) else False else False else post (PX.exit 0, S.mk 18 [] [])) = (roundL [] [] 42 2 (prH s k)) post := by kernel_rfl
def gPr : S → K (PX × S) := fun s post => ∃ (q b : List UInt8) (k : Int), s = prH (q ++ 47 :: b) k ∧ (47 ∉ b ∧ k = (q.length + b.length : Int) ∧ q.length + b.length ≤ 4000000) ∧ (q ≠ [] → post (.ret, ⟨18, [(2, sD q)], []⟩)) ∧ (q = [] → post (.exit 0, ⟨18, [], []⟩))
theorem vcPr (s : List UInt8) (post : P × List (Nat × En) → Prop) : (bif decide ((-9223372036854775808 : Int) ≤ (↑(List.length s) : Int) - (1 : Int) ∧ (↑(List.length s) : Int) - (1 : Int) ≤ (9223372036854775807 : Int)) then ∃ (q : List UInt8), ∃ (b : List UInt8), ∃ (k : Int), S.mk 18 [(0, P.d (D.str s)), (3, P.d (D.int IntKind.i64 ((↑(List.length s) : Int) - (1 : Int))))] [] = S.mk 18 [(0, P.d (D.str (q ++ (47 : UInt8) :: b))), (3, P.d (D.int IntKind.i64 k))] [] ∧ (¬(47 : UInt8) ∈ b ∧ k = (↑(List.length q) : Int) + (↑(List.length b) : Int) ∧ List.length q + List.length b ≤ 4000000) ∧ (q ≠ [] → post (P.d (D.str q), [])) ∧ (q = [] → post (P.d (D.str []), [])) else False) = (bodyF [] [(2, loopHook (kpF 42 2) gPr)] 42 [sD s] []) post := by kernel_rfl
def hPar : KF1 := fun ps R post => ∃ q b : List UInt8, ps = [sD (q ++ 47 :: b)] ∧ R = [] ∧ (47 ∉ b ∧ q.length + b.length ≤ 4000000) ∧ post (sD q, [])
/-- Is it so of items? -/
def Good (x : List It) : Prop := ∀ i, i < x.length → (0 < i → Op.bytesLess (x.getD (i - 1) it0).2.1 (x.getD i it0).2.1 = true) ∧
  ∃ q b : List UInt8, (x.getD i it0).2.1 = q ++ 47 :: b ∧ seenOk b = true ∧ (q = [] ∨ (q.headD 0 = 47 ∧ ∃ j : Nat, j < x.length ∧ idxI (fun y : It => y.2.1 == q) x = (j : Int) ∧ (x.getD j it0).2.2.1 = true)) ∧ q.length + b.length ≤ 1000000
end Pi

/- Tree: what holds of the items. -/
namespace Pi
open Go Go.Proofs
set_option maxRecDepth 100000
section
variable {T : List Pl} {V V' : List Id3}
theorem joinR_snoc (a : List (List UInt8)) (b : List UInt8) : joinR (a ++ [b]) = joinR a ++ 47 :: b := by simp [joinR]
theorem items_mem {x : It} : x ∈ itemsX T V ↔ ∃ p ∈ seenL T V, x = itemX T V p := by
  rw [itemsX_perm.mem_iff, List.mem_map]
  exact ⟨fun ⟨p, h1, h2⟩ => ⟨p, h1, h2.symm⟩, fun ⟨p, h1, h2⟩ => ⟨p, h1, h2.symm⟩⟩
theorem items_len : (itemsX T V).length ≤ T.length := by
  rw [itemsX_perm.length_eq, List.length_map]
  exact List.length_filter_le _ _
theorem joinR_head {l : List (List UInt8)} (h : l ≠ []) : (joinR l).headD 0 = 47 := by
  cases l with
  | nil => exact absurd rfl h
  | cons a r => simp [joinR]
end
end Pi

/- Tree: arguments that fit. -/
namespace Pi
open Go Go.Proofs
set_option maxRecDepth 100000
theorem fit_list {α : Type} (f : α → D) (P : D → Prop) (h1 : ∀ y, P y → ∃ x, y = f x) : ∀ es : List D, (∀ y ∈ es, P y) → ∃ l : List α, es = l.map f
  | [], _ => ⟨[], rfl⟩
  | y :: es, hy => by
    obtain ⟨l, rfl⟩ := fit_list f P h1 es fun y h => hy y (.tail _ h)
    obtain ⟨x, rfl⟩ := h1 y (hy y (.head _))
    exact ⟨x :: l, rfl⟩
end Pi

/- Tree: the world that a row's condition gives; Items as a told function. -/
namespace Pi
open Go Go.Proofs Go.RowKit Go.Proofs.YtccffeofkhkbcaaGreatDoor
set_option maxRecDepth 100000
abbrev laidL : List (String × DataW Unit) := [("math/bits.deBruijn32tab", Rows.laid_math_bits_deBruijn32tab), ("math/bits.deBruijn64tab", Rows.laid_math_bits_deBruijn64tab), ("internal/strconv.uint64pow10", Rows.laid_internal_strconv_uint64pow10), ("unicode/utf8.acceptRanges", Rows.laid_unicode_utf8_acceptRanges), ("unicode/utf8.first", Rows.laid_unicode_utf8_first)]
theorem gP : Tryz.prog.globalNamed "internal/strconv.uint64pow10" = some 3 := by kernel_rfl
theorem tP : (Tryz.prog.globals[3]?).map (·.type) = some 186 := by kernel_rfl
theorem laidL_plain (w : World) (h : laidMetH Tryz.prog laidL w) : laidMet Tryz.prog laidL w := by
  unfold laidMetH at h
  have e : (laidL.filter fun x => x.2.handleName?.isSome) = [] := by kernel_rfl
  rw [e] at h
  exact h
theorem laidL_H (w : World) (h : laidMet Tryz.prog laidL w) : laidMetH Tryz.prog laidL w := by
  unfold laidMetH
  have e : (laidL.filter fun x => x.2.handleName?.isSome) = [] := by kernel_rfl
  rw [e]
  exact h
theorem laidP : (Rows.laid_internal_strconv_uint64pow10 : DataW Unit) = Lib.tabData .u64 Lib.pow10Tab := by kernel_rfl
theorem laidF : (Rows.laid_unicode_utf8_first : DataW Unit) = Lib.firstData := by kernel_rfl
theorem laidA : (Rows.laid_unicode_utf8_acceptRanges : DataW Unit) = Lib.acceptData := by kernel_rfl
def renU : Go.Shelf.Ren := ⟨fun n => n, fun | 5 => 5 | 119 => 175 | 138 => 177 | 139 => 178 | n => n, fun | 3 => 1 | 4 => 2 | n => n⟩
theorem u8_of {W : World} (h : laidMet Tryz.prog laidL W) : Lib.Utf8Tabs 1 2 W :=
  utf8Tabs_of_readsT (ρ := renU) ⟨by kernel_rfl, by kernel_rfl, by kernel_rfl, by kernel_rfl⟩ ⟨by kernel_rfl, by kernel_rfl, by kernel_rfl, by kernel_rfl, by kernel_rfl, by kernel_rfl, by kernel_rfl⟩
    (by rw [← laidF]; exact Lib.laidMet.reads h (.tail _ (.tail _ (.tail _ (.tail _ (.head _))))))
    (by rw [← laidA]; exact Lib.laidMet.reads h (.tail _ (.tail _ (.tail _ (.head _)))))
theorem stW_of {W : World} (h0 : laidMetH Tryz.prog laidL W) (hs : W.ShapedOpen Tryz.prog) : StW W := by
  have h := laidL_plain W h0
  have h3 := h.tail.tail
  have htab : Lib.TabIs Tryz.prog W "internal/strconv.uint64pow10" .u64 Lib.pow10Tab :=
    Lib.tabIs_of_head (k := .u64) (zs := Lib.pow10Tab) gP tP Tryz.underlying186 Tryz.underlying119 (by kernel_rfl) (by kernel_rfl) (by rw [← laidP]; exact h3)
  refine ⟨?_, fun w hw => ?_, u8_of h⟩
  · exact cell_of_shapedOpen_int (zero := #[.int .i64 0]) (t := 3) hs (Nat.le_of_ble_eq_true (by kernel_rfl)) (by kernel_rfl) rfl (by kernel_rfl) (by kernel_rfl) Tryz.underlying3
  · unfold Lib.TabIs World.var? at htab ⊢
    rw [gP] at htab ⊢
    simp only [Option.bind_some] at htab ⊢
    by_cases hb : 3 < W.heap.size
    · rw [hw 3 hb]
      exact htab
    · rw [Array.getElem?_eq_none (by omega)] at htab
      cases htab
/-- A world that meets the condition. -/
noncomputable def wL (os : Os) : World := World.laidAll Tryz.prog os laidL
theorem wL_met (os : Os) (args : Array Value) : laidMet Tryz.prog laidL ((wL os).forCall (fun _ _ => 0) ⟨#[], args, []⟩).memory :=
  laidMet_laidAll _ (by kernel_rfl) (by kernel_rfl)
/-! Items, told -/
open Classical in
noncomputable def gItems : TF := fun ps R => if h : ∃ a : List Pl × List Id3, ps = [plsP a.1, idsP a.2] ∧ R = [] ∧ (a.1.length ≤ 1000 ∧ a.2.length ≤ 1000) then
  some (.sl 0 0 (itemsX (tkL h.choose.1) (lvL h.choose.2)).length, [(0, ⟨0, none, .arr 43 false ((itemsX (tkL h.choose.1) (lvL h.choose.2)).map itmD)⟩)]) else none
theorem gItems_hook {ps : List P} {R : List (Nat × En)} {y : P × List (Nat × En)} (h : gItems ps R = some y) : hItems ps R (fun z => z = y) := by
  unfold gItems at h
  split at h
  · rename_i e
    obtain ⟨h1, h2, h3⟩ := e.choose_spec
    exact ⟨e.choose.1, e.choose.2, h1, h2, h3, Option.some.inj h⟩
  · cases h
def unPl : D → Pl
  | .agg [.int .i64 a, .int .i64 b, .int .i64 c, .int .i64 d, .int .i64 e, .int .i64 f, .str s, .bool g] => ((a, b, c), (d, e, f), s, g)
  | _ => pl0
theorem unmap_inj {α β : Type} (f : α → β) (g : β → α) (hg : ∀ x, g (f x) = x) {a b : List α} (h : a.map f = b.map f) : a = b := by
  have := congrArg (List.map g) h
  rw [List.map_map, List.map_map] at this
  rwa [show (g ∘ f) = id from funext hg, List.map_id, List.map_id] at this
theorem hItems_told {ps : List P} {R : List (Nat × En)} {post : P × List (Nat × En) → Prop} (h : hItems ps R post) : ∃ x, gItems ps R = some x ∧ post x := by
  obtain ⟨l, v, h1, h2, h3, hp⟩ := h
  have e : ∃ a : List Pl × List Id3, ps = [plsP a.1, idsP a.2] ∧ R = [] ∧ (a.1.length ≤ 1000 ∧ a.2.length ≤ 1000) := ⟨(l, v), h1, h2, h3⟩
  obtain ⟨c1, _, _⟩ := e.choose_spec
  have c1 := h1.symm.trans c1
  have c2 : l.map plD = e.choose.1.map plD ∧ v.map ixD = e.choose.2.map ixD := by simpa [plsP, idsP] using c1
  have e1 := unmap_inj plD unPl (fun _ => rfl) c2.1
  have e2 := unmap_inj ixD unIx (fun _ => rfl) c2.2
  refine ⟨_, ?_, hp⟩
  unfold gItems
  rw [dif_pos e, ← e1, ← e2]
/-- Those that tell Items. -/
structure XT (X : XF) : Prop where
  items : ∀ ps R, X.cf 12 ps R = gItems ps R
theorem okItems {X : XF} (hX : XT X) : FD X 12 hItems := FOK.ofX Tryz.func12 (by kernel_rfl) fun ps R post h => by
  obtain ⟨x, h1, h2⟩ := hItems_told h
  exact ⟨x, by rw [← h1]; exact hX.items ps R, h2⟩
noncomputable def xTree : XF := ⟨xOf ((12, gItems) :: xL), fun f hf ps R => by
  show (if Nat.beq 12 f then gItems ps R else xB f ps R) = _
  split
  · rename_i he
    have := Nat.eq_of_beq_eq_true he
    subst this
    have h0 : memN 12 xsB = false := by kernel_rfl
    rw [h0] at hf
    cases hf
  · rfl⟩
theorem xTree_t : XT xTree := ⟨fun _ _ => rfl⟩
theorem xTree_ok {w1 : World} (hw1 : StW w1) : CFOK Tryz.prog { w1 with drawn := 0 } xTree.cf := by
  have h0 := xB_ok hw1
  have hI : XOK Tryz.prog { w1 with drawn := 0 } 12 gItems := XOK.ofN (ndItems (X := xBase) h0) fun ps R y h => gItems_hook h
  intro f ps R p R1 h'
  have h' : (if Nat.beq 12 f then gItems ps R else xB f ps R) = some (p, R1) := h'
  split at h'
  · rename_i hf
    have hf := Nat.eq_of_beq_eq_true hf
    subst hf
    exact hI rfl ps R p R1 h'
  · exact h0 f ps R p R1 h'
end Pi

/- Tree: the laws. -/
namespace Pi
open Go Go.Proofs
set_option maxRecDepth 100000
theorem it_take (l : List It) : (l.map itmD).take l.length = l.map itmD := List.take_of_length_le (by simp)
theorem items_good {T : List Pl} {V : List Id3} (hT : Rt T) (hm : T.length ≤ 1000) : Good (itemsX T V) := by
  intro i hi
  have hx : (itemsX T V)[i]? = some ((itemsX T V).getD i it0) := getD_some hi it0
  refine ⟨fun h0 => ?_, ?_⟩
  · have h1 : (itemsX T V)[i - 1]? = some ((itemsX T V).getD (i - 1) it0) := getD_some (by omega) it0
    have := List.pairwise_iff_getElem.1 (itemsX_lt (live := V) hT) (i - 1) i (by omega) hi (by omega)
    rw [(List.getElem?_eq_some_iff.1 h1).2, (List.getElem?_eq_some_iff.1 hx).2] at this
    exact this
  · obtain ⟨p, hp, he⟩ := items_mem.1 (List.mem_of_getElem? hx)
    obtain ⟨pT, pm⟩ := seen_pl hp
    obtain ⟨w, hw, mw⟩ := marked_up pm
    have hat := atPl_of hT.1 pT
    have hpath : ((itemsX T V).getD i it0).2.1 = joinR (w.reverse.map (nmX T V)) := by
      rw [he]
      show pathX T V p.1 = _
      unfold pathX
      rw [pathX_up hw]
    have hlen := names_len (V := V) hT hw
    have hseen : seenOk (nmX T V p.1) = true := by
      unfold nmX
      rw [hat]
      exact nmP_seen (hT.2 p pT)
    cases hw with
    | top h h0 =>
      refine ⟨[], nmX T V p.1, ?_, hseen, .inl rfl, ?_⟩
      · rw [hpath]; simp [joinR]
      · simp [sumL, joinR] at hlen
        simp
        omega
    | @step _ p' q w' h h0 hq hd hw' =>
      rw [hat] at h
      cases h
      have e : ((p.1 :: w').reverse.map (nmX T V)) = w'.reverse.map (nmX T V) ++ [nmX T V p.1] := by simp
      have hmq : marked T V p.2.1 = true := by
        obtain ⟨r, hr⟩ := hw'.hd
        exact mw _ (by rw [hr]; simp)
      have hqs := seen_mem hmq hq
      have hqx : itemX T V q ∈ itemsX T V := items_mem.2 ⟨q, hqs, rfl⟩
      have hq1 : q.1 = p.2.1 := (atPl_mem hq).2
      have hqp : (itemX T V q).2.1 = joinR (w'.reverse.map (nmX T V)) := by
        show pathX T V q.1 = _
        unfold pathX
        rw [hq1, pathX_up hw']
      have hne : w'.reverse.map (nmX T V) ≠ [] := by
        obtain ⟨r, hr⟩ := hw'.hd
        rw [hr]
        simp
      refine ⟨joinR (w'.reverse.map (nmX T V)), nmX T V p.1, ?_, hseen, .inr ⟨joinR_head hne, ?_⟩, ?_⟩
      · rw [hpath, e, joinR_snoc]
      · rcases idxI_cases (fun y : It => y.2.1 == joinR (w'.reverse.map (nmX T V))) (itemsX T V) with ⟨j, y, h1, h2, h3⟩ | ⟨h1, h2⟩
        · have hj : j < (itemsX T V).length := (List.getElem?_eq_some_iff.1 h1).1
          refine ⟨j, hj, h3, ?_⟩
          have hy : (itemsX T V).getD j it0 = y := by
            rw [List.getD_eq_getElem?_getD, h1]
            rfl
          have := items_key hT y (itemsX_perm.mem_iff.1 (List.mem_of_getElem? h1)) _ (itemsX_perm.mem_iff.1 hqx) (by rw [hqp]; simpa using h2)
          rw [hy, this]
          exact hd
        · have := h2 _ hqx
          simp [hqp] at this
      · rw [e] at hlen
        unfold sumL at hlen
        rw [joinR_snoc, List.length_append, List.length_cons] at hlen
        omega
def lA : List Pl := [((1, 1, 0), (0, 0, 0), [100], true), ((2, 1, 0), (1, 1, 0), [102], false), ((3, 1, 0), (1, 1, 0), [102], false)]
def vA : List Id3 := [(2, 1, 0), (3, 1, 0)]
def mA : List It := [((1, 1, 0), [47, 100], true, true), ((2, 1, 0), [47, 100, 47, 102], false, false), ((3, 1, 0), [47, 100, 47, 102, 126, 51, 46, 49, 46, 48], false, false)]
theorem itemsA : itemsX (tkL lA) (lvL vA) = mA := by kernel_rfl
section
variable {X : XF} (hX : XT X)
include hX
theorem okAwake15 : FD X 10 hAwake15 := FD.mk (H := [(12, hItems), (11, hSameI), (14, hFindT), (16, hSettled)]) (hk := []) (by kernel_rfl) (.cons (okItems hX) (.cons okSameI (.cons okFindT (.cons okSettled .nil)))) .nil (by
  intro ps R post hh
  obtain ⟨rfl, rfl, hp⟩ := hh
  (rw [← vcAw15]; delta vcAw15_0 vcAw15_1 vcAw15_2 vcAw15_3 vcAw15_4)
  refine ⟨lA, vA, rfl, rfl, ⟨by decide, by decide⟩, mA, mA, by rw [itemsA, it_take]; rfl, rfl, by decide, condT (decT rfl) ⟨mA, [47, 100, 47, 102], by rw [itemsA, it_take], rfl, by decide, condT (by decide) ⟨mA, by rw [itemsA, it_take], rfl, by decide, ?_⟩⟩⟩
  exact leafBc hp (by decide))
end
end Pi

/- Tree: paths: what the runs ask. -/
namespace Pi
open Go Go.Proofs
set_option maxRecDepth 100000
set_option maxHeartbeats 0
abbrev ptsH (x : List It) (k : Int) : S := ⟨82, [(0, itsP x), (3, iD k)], []⟩
def vcPts_0 (x : List It) : Int := (↑(List.length (List.map itmD x)) : Int)
def vcPts_1  : Int := (-9223372036854775808 : Int)
def vcPts_2 (k : Int) : Int := k - (1 : Int)
def vcPts_3 (x : List It) (k : Int) : Bool := decide ((0 : Int) ≤ k ∧ k < vcPts_0 x)
noncomputable def vcPts_4 (x : List It) (k : Int) : Bool := isD PR (43 : TypeId) (D.nth (List.map itmD x) (Int.toNat k))
def vcPts_5 (x : List It) (k : Int) : List UInt8 := D.sVal (D.cAt (D.nth (List.map itmD x) (Int.toNat k)) 3)
def vcPts_6 (x : List It) (k : Int) : Int := (↑(List.length (vcPts_5 x k)) : Int)
def vcPts_7 (x : List It) : P := P.d (D.sl 6 (List.map itmD x))
def vcPts_8 (v2 : List It) (v3 : List UInt8) : Int := idxI (fun (x : It) => Prod.fst (Prod.snd x) == v3) v2
def vcPts_9 (v5 : Int) : Int := v5 + (1 : Int)
def vcPts_10 (k : Int) : Int := k + (1 : Int)
theorem vcPts (x : List It) (k : Int) (post : PX × S → Prop) : (bif decide (k < vcPts_0 x) then bif decide (k > (0 : Int)) then bif decide (vcPts_1 ≤ vcPts_2 k ∧ vcPts_2 k ≤ (9223372036854775807 : Int)) then bif decide ((0 : Int) ≤ vcPts_2 k ∧ vcPts_2 k < vcPts_0 x) then bif isD PR (43 : TypeId) (D.nth (List.map itmD x) (Int.toNat (vcPts_2 k))) then bif vcPts_3 x k then bif vcPts_4 x k then bif !Op.bytesLess (D.sVal (D.cAt (D.nth (List.map itmD x) (Int.toNat (vcPts_2 k))) 3)) (vcPts_5 x k) then post (PX.ret, S.mk 82 [(2, P.d (D.bool false))] []) else bif vcPts_3 x k then bif vcPts_4 x k then bif decide (vcPts_6 x k < (2 : Int)) then post (PX.ret, S.mk 82 [(2, P.d (D.bool false))] []) else bif vcPts_3 x k then bif vcPts_4 x k then bif decide ((0 : Int) ≤ (0 : Int) ∧ (0 : Int) < vcPts_6 x k) then bif (↑(UInt8.toNat (List.getD (vcPts_5 x k) 0 (0 : UInt8))) : Int) != (47 : Int) then post (PX.ret, S.mk 82 [(2, P.d (D.bool false))] []) else bif vcPts_3 x k then bif vcPts_4 x k then ∃ (q : List UInt8), ∃ (b : List UInt8), [P.d (D.str (vcPts_5 x k))] = [P.d (D.str (q ++ (47 : UInt8) :: b))] ∧ EqR [] [] ∧ (¬(47 : UInt8) ∈ b ∧ List.length q + List.length b ≤ 4000000) ∧ ∃ (l : List It), ∃ (p : List UInt8), [vcPts_7 x, P.d (D.str q)] = [P.d (D.sl 6 (List.map itmD l)), P.d (D.str p)] ∧ EqR [] [] ∧ List.length l ≤ 1000000 ∧ bif !q == [] then bif decide (vcPts_8 l p < (0 : Int)) then post (PX.ret, S.mk 82 [(2, P.d (D.bool false))] []) else bif decide ((0 : Int) ≤ vcPts_8 l p ∧ vcPts_8 l p < vcPts_0 x) then bif isD PR (43 : TypeId) (D.nth (List.map itmD x) (Int.toNat (vcPts_8 l p))) then bif !D.bVal (D.cAt (D.nth (List.map itmD x) (Int.toNat (vcPts_8 l p))) 4) then post (PX.ret, S.mk 82 [(2, P.d (D.bool false))] []) else bif vcPts_3 x k then bif vcPts_4 x k then ∀ (c : Int), c = (↑(List.length q) : Int) → bif decide (vcPts_1 ≤ vcPts_9 c ∧ vcPts_9 c ≤ (9223372036854775807 : Int)) then bif decide ((0 : Int) ≤ vcPts_9 c ∧ vcPts_9 c ≤ vcPts_6 x k) then ∃ (s : List UInt8), [P.d (D.str (List.drop (Int.toNat (vcPts_9 c)) (List.take (List.length (vcPts_5 x k)) (vcPts_5 x k))))] = [P.d (D.str s)] ∧ EqR [] [] ∧ List.length s ≤ 2000000 ∧ bif !seenOk s then post (PX.ret, S.mk 82 [(2, P.d (D.bool false))] []) else bif decide (vcPts_1 ≤ vcPts_10 k ∧ vcPts_10 k ≤ (9223372036854775807 : Int)) then post (PX.normal, S.mk 82 [(0, vcPts_7 x), (3, P.d (D.int IntKind.i64 (vcPts_10 k)))] []) else False else False else False else False else False else False else False else bif vcPts_3 x k then bif vcPts_4 x k then ∀ (c : Int), c = (↑(List.length q) : Int) → bif decide (vcPts_1 ≤ vcPts_9 c ∧ vcPts_9 c ≤ (9223372036854775807 : Int)) then bif decide ((0 : Int) ≤ vcPts_9 c ∧ vcPts_9 c ≤ vcPts_6 x k) then ∃ (s : List UInt8), [P.d (D.str (List.drop (Int.toNat (vcPts_9 c)) (List.take (List.length (vcPts_5 x k)) (vcPts_5 x k))))] = [P.d (D.str s)] ∧ EqR [] [] ∧ List.length s ≤ 2000000 ∧ bif !seenOk s then post (PX.ret, S.mk 82 [(2, P.d (D.bool false))] []) else bif decide (vcPts_1 ≤ vcPts_10 k ∧ vcPts_10 k ≤ (9223372036854775807 : Int)) then post (PX.normal, S.mk 82 [(0, vcPts_7 x), (3, P.d (D.int IntKind.i64 (vcPts_10 k)))] []) else False else False else False else False else False else False else False else False else False else False else False else False else False else False else False else False else False else bif vcPts_3 x k then bif vcPts_4 x k then bif decide (vcPts_6 x k < (2 : Int)) then post (PX.ret, S.mk 82 [(2, P.d (D.bool false))] []) else bif vcPts_3 x k then bif vcPts_4 x k then bif decide ((0 : Int) ≤ (0 : Int) ∧ (0 : Int) < vcPts_6 x k) then bif (↑(UInt8.toNat (List.getD (vcPts_5 x k) 0 (0 : UInt8))) : Int) != (47 : Int) then post (PX.ret, S.mk 82 [(2, P.d (D.bool false))] []) else bif vcPts_3 x k then bif vcPts_4 x k then ∃ (q : List UInt8), ∃ (b : List UInt8), [P.d (D.str (vcPts_5 x k))] = [P.d (D.str (q ++ (47 : UInt8) :: b))] ∧ EqR [] [] ∧ (¬(47 : UInt8) ∈ b ∧ List.length q + List.length b ≤ 4000000) ∧ ∃ (l : List It), ∃ (p : List UInt8), [vcPts_7 x, P.d (D.str q)] = [P.d (D.sl 6 (List.map itmD l)), P.d (D.str p)] ∧ EqR [] [] ∧ List.length l ≤ 1000000 ∧ bif !q == [] then bif decide (vcPts_8 l p < (0 : Int)) then post (PX.ret, S.mk 82 [(2, P.d (D.bool false))] []) else bif decide ((0 : Int) ≤ vcPts_8 l p ∧ vcPts_8 l p < vcPts_0 x) then bif isD PR (43 : TypeId) (D.nth (List.map itmD x) (Int.toNat (vcPts_8 l p))) then bif !D.bVal (D.cAt (D.nth (List.map itmD x) (Int.toNat (vcPts_8 l p))) 4) then post (PX.ret, S.mk 82 [(2, P.d (D.bool false))] []) else bif vcPts_3 x k then bif vcPts_4 x k then ∀ (c : Int), c = (↑(List.length q) : Int) → bif decide (vcPts_1 ≤ vcPts_9 c ∧ vcPts_9 c ≤ (9223372036854775807 : Int)) then bif decide ((0 : Int) ≤ vcPts_9 c ∧ vcPts_9 c ≤ vcPts_6 x k) then ∃ (s : List UInt8), [P.d (D.str (List.drop (Int.toNat (vcPts_9 c)) (List.take (List.length (vcPts_5 x k)) (vcPts_5 x k))))] = [P.d (D.str s)] ∧ EqR [] [] ∧ List.length s ≤ 2000000 ∧ bif !seenOk s then post (PX.ret, S.mk 82 [(2, P.d (D.bool false))] []) else bif decide (vcPts_1 ≤ vcPts_10 k ∧ vcPts_10 k ≤ (9223372036854775807 : Int)) then post (PX.normal, S.mk 82 [(0, vcPts_7 x), (3, P.d (D.int IntKind.i64 (vcPts_10 k)))] []) else False else False else False else False else False else False else False else bif vcPts_3 x k then bif vcPts_4 x k then ∀ (c : Int), c = (↑(List.length q) : Int) → bif decide (vcPts_1 ≤ vcPts_9 c ∧ vcPts_9 c ≤ (9223372036854775807 : Int)) then bif decide ((0 : Int) ≤ vcPts_9 c ∧ vcPts_9 c ≤ vcPts_6 x k) then ∃ (s : List UInt8), [P.d (D.str (List.drop (Int.toNat (vcPts_9 c)) (List.take (List.length (vcPts_5 x k)) (vcPts_5 x k))))] = [P.d (D.str s)] ∧ EqR [] [] ∧ List.length s ≤ 2000000 ∧ bif !seenOk s then post (PX.ret, S.mk 82 [(2, P.d (D.bool false))] []) else bif decide (vcPts_1 ≤ vcPts_10 k ∧ vcPts_10 k ≤ (9223372036854775807 : Int)) then post (PX.normal, S.mk 82 [(0, vcPts_7 x), (3, P.d (D.int IntKind.i64 (vcPts_10 k)))] []) else False else False else False else False else False else False else False else False else False else False else False else False else post (PX.exit 0, S.mk 82 [] [])) = (roundL [(42, hPar), (15, hFindT), (43, hSeen)] [] 19 2 (ptsH x k)) post := by kernel_rfl
def gPts : S → K (PX × S) := fun s post => ∃ x, s = ptsH x 0 ∧ (x.length ≤ 1000000 ∧ Good x) ∧ post (.exit 0, ⟨82, [], []⟩)
theorem vcPtsB (x : List It) (post : P × List (Nat × En) → Prop) : (∃ (x_1 : List It), S.mk 82 [(0, P.d (D.sl 6 (List.map itmD x))), (3, P.d (D.int IntKind.i64 (0 : Int)))] [] = S.mk 82 [(0, P.d (D.sl 6 (List.map itmD x_1))), (3, P.d (D.int IntKind.i64 (0 : Int)))] [] ∧ (List.length x_1 ≤ 1000000 ∧ Good x_1) ∧ post (P.d (D.bool true), [])) = (bodyF [] [(2, loopHook (kpF 19 2) gPts)] 19 [itsP x] []) post := by kernel_rfl
def hPaths : KF1 := fun ps R post => ∃ x, ps = [itsP x] ∧ R = [] ∧ (x.length ≤ 1000000 ∧ Good x) ∧ post (.d (.bool true), [])
end Pi

/- Tree: paths: their law. -/
namespace Pi
open Go Go.Proofs
set_option maxRecDepth 100000
section
variable {X : XF}
theorem loopPr : LD X 42 2 (loopHook (kpF 42 2) gPr) :=
  LD.par (H := []) (hk := []) (by kernel_rfl) (by kernel_rfl) .nil .nil
    (A := List UInt8 × List UInt8) (B := Int) (fun a k => prH (a.1 ++ 47 :: a.2) k)
    (fun a k => 47 ∉ a.2 ∧ a.1.length + a.2.length ≤ 4000000 ∧ (a.1.length : Int) ≤ k ∧ k ≤ a.1.length + a.2.length)
    (fun _ k => k.toNat)
    (fun a x => (a.1 ≠ [] ∧ x = (.ret, ⟨18, [(2, sD a.1)], []⟩)) ∨ (a.1 = [] ∧ x = (.exit 0, ⟨18, [], []⟩)))
    (by
      rintro ⟨q, b⟩ k ⟨h1, h2, h3, h4⟩
      dsimp only at *
      rw [← vcPrH]
      have hl : ((q ++ 47 :: b).length : Int) = q.length + b.length + 1 := by simp; omega
      refine condP (fun h => oblP ⟨by omega, by omega⟩ ?_) fun h => .inr ⟨List.eq_nil_of_length_eq_zero (by omega), rfl⟩
      by_cases hk : k = q.length
      · subst hk
        have e : (q ++ 47 :: b).getD ((q.length : Int)).toNat (0 : UInt8) = 47 := by simp [List.getD_eq_getElem?_getD]
        rw [e]
        refine condT rfl (oblP ⟨by omega, by omega⟩ (.inl ⟨?_, ?_⟩))
        · rintro rfl
          simp at h
        · simp
      · have hj : k.toNat - q.length - 1 < b.length := by omega
        have e : (q ++ 47 :: b).getD k.toNat (0 : UInt8) = b.getD (k.toNat - q.length - 1) 0 := by
          simp only [List.getD_eq_getElem?_getD]
          rw [List.getElem?_append_right (by omega), show k.toNat - q.length = (k.toNat - q.length - 1) + 1 by omega, List.getElem?_cons_succ]
          rfl
        have hne : b.getD (k.toNat - q.length - 1) 0 ≠ 47 := fun he => h1 (by
          rw [← he]
          exact List.mem_of_getElem? (getD_some hj 0))
        rw [e]
        refine condF ?_ (oblP ⟨by omega, by omega⟩ ⟨(k - 1).toNat, by omega, k - 1, rfl, ⟨h1, h2, by omega, by omega⟩, rfl⟩)
        rw [beq_eq_false_iff_ne]
        exact fun he => hne (UInt8.toNat_inj.1 (by show _ = 47; omega)))
    (by
      rintro s post ⟨q, b, k, rfl, ⟨h1, rfl, h2⟩, h3, h4⟩
      refine ⟨(q, b), _, rfl, ⟨h1, h2, by dsimp only; omega, by dsimp only; omega⟩, ?_⟩
      rintro x (⟨h5, rfl⟩ | ⟨h5, rfl⟩)
      · exact h3 h5
      · exact h4 h5)
theorem okPar : FD X 42 hPar := FD.mk (H := []) (hk := [(2, loopHook (kpF 42 2) gPr)]) (by kernel_rfl) .nil (.cons loopPr .nil) (by
  intro ps R post hh
  obtain ⟨q, b, rfl, rfl, ⟨h1, h2⟩, hp⟩ := hh
  rw [← vcPr]
  have hl : ((q ++ 47 :: b).length : Int) = q.length + b.length + 1 := by simp; omega
  refine oblP ⟨by omega, by omega⟩ ⟨q, b, (q.length + b.length : Int), ?_, ⟨h1, rfl, h2⟩, fun _ => hp, fun h => by rw [h] at hp; exact hp⟩
  rw [hl, show ((q.length : Int) + b.length + 1 - 1) = q.length + b.length by omega])
theorem loopPts : LD X 19 2 (loopHook (kpF 19 2) gPts) :=
  LD.par (H := [(42, hPar), (15, hFindT), (43, hSeen)]) (hk := []) (by kernel_rfl) (by kernel_rfl) (.cons okPar (.cons okFindR (.cons okSeenR .nil))) .nil
    (A := List It) (B := Int) (fun x k => ptsH x k) (fun x k => x.length ≤ 1000000 ∧ Good x ∧ 0 ≤ k) (fun x k => (x.length - k).toNat) (fun _ y => y = (.exit 0, ⟨82, [], []⟩))
    (by
      rintro x k ⟨hm, hg, h0⟩
      (rw [← vcPts]; delta vcPts_0 vcPts_1 vcPts_2 vcPts_3 vcPts_4 vcPts_5 vcPts_6 vcPts_7 vcPts_8 vcPts_9 vcPts_10)
      simp only [List.length_map]
      refine condP (fun hk => ?_) fun hk => rfl
      have hkn : k.toNat < x.length := by omega
      obtain ⟨hord, q, b, hp, hs, hdir, hlen⟩ := hg k.toNat hkn
      have e : D.sVal (D.cAt (itmD (x.getD k.toNat it0)) 3) = q ++ 47 :: b := hp
      have hl : ((q ++ 47 :: b).length : Int) = q.length + b.length + 1 := by simp; omega
      have hb : 0 < b.length := by
        rcases b with _ | ⟨c, b⟩
        · exact absurd rfl (seen_ne hs)
        · simp
      have hhd : (q ++ 47 :: b).getD 0 (0 : UInt8) = 47 := by
        rcases hdir with rfl | ⟨h, _⟩
        · rfl
        · rcases q with _ | ⟨c, q⟩
          · rfl
          · exact h
      have hdr : List.drop ((q.length : Int) + 1).toNat (List.take (q ++ 47 :: b).length (q ++ 47 :: b)) = b := by
        rw [List.take_length, show ((q.length : Int) + 1).toNat = q.length + 1 by omega]
        simp
      have hn : roundPost (x.length - k).toNat (fun m s => ∃ b', s = ptsH x b' ∧ (x.length ≤ 1000000 ∧ Good x ∧ 0 ≤ b') ∧ m = (x.length - b').toNat) (fun y => y = (.exit 0, ⟨82, [], []⟩)) (.normal, ptsH x (k + 1)) :=
        ⟨(x.length - (k + 1)).toNat, by omega, k + 1, rfl, ⟨hm, hg, by omega⟩, rfl⟩
      rw [it_nth hkn it0]
      simp only [e]
      refine condP (fun hpos => ?_) fun hpos => ?_
      · have hk1 : (k - 1).toNat < x.length := by omega
        rw [it_nth hk1 it0]
        refine oblP ⟨by omega, by omega⟩ (oblP ⟨by omega, by omega⟩ (oblI (isIt _) (oblP ⟨h0, hk⟩ (oblI (isIt _) (condF ?_ ?_)))))
        · have := hord (by omega)
          rw [hp] at this
          show (!Op.bytesLess (x.getD (k - 1).toNat it0).2.1 (q ++ 47 :: b)) = false
          rw [show (k - 1).toNat = k.toNat - 1 by omega, this]
          rfl
        · refine oblP ⟨h0, hk⟩ (oblI (isIt _) (condF (decF (by omega)) (oblP ⟨h0, hk⟩ (oblI (isIt _) (oblP ⟨by omega, by omega⟩ (condF ?_ (oblP ⟨h0, hk⟩ (oblI (isIt _) ⟨q, b, rfl, rfl, ⟨seen_no hs, by omega⟩, x, q, rfl, rfl, hm, ?_⟩)))))))) 
          · rw [hhd]; rfl
          have nx : (decide ((0 : Int) ≤ k ∧ k < (↑x.length : Int)) = true) := decT ⟨h0, hk⟩
          refine condI (fun hq => ?_) fun hq => ?_
          · rcases hdir with rfl | ⟨_, j, hj, hji, hjd⟩
            · simp at hq
            have hjn : (j : Int).toNat < x.length := by omega
            rw [hji, it_nth hjn it0]
            refine condF (decF (by omega)) (oblP ⟨by omega, by omega⟩ (oblI (isIt _) (condF ?_ (oblI nx (oblI (isIt _) fun c hc => ?_)))))
            · show (!(x.getD (j : Int).toNat it0).2.2.1) = false
              rw [show (j : Int).toNat = j by omega, hjd]
              rfl
            · refine oblP ⟨by omega, by omega⟩ (oblP ⟨by omega, by omega⟩ ⟨b, ?_, rfl, by omega, condF (by rw [hs]; rfl) (oblI (incI (by omega) (by omega)) hn)⟩)
              rw [hc, hdr]
          · refine oblI nx (oblI (isIt _) fun c hc => ?_)
            refine oblP ⟨by omega, by omega⟩ (oblP ⟨by omega, by omega⟩ ⟨b, ?_, rfl, by omega, condF (by rw [hs]; rfl) (oblI (incI (by omega) (by omega)) hn)⟩)
            rw [hc, hdr]
      · refine oblP ⟨h0, hk⟩ (oblI (isIt _) (condF (decF (by omega)) (oblP ⟨h0, hk⟩ (oblI (isIt _) (oblP ⟨by omega, by omega⟩ (condF ?_ (oblP ⟨h0, hk⟩ (oblI (isIt _) ⟨q, b, rfl, rfl, ⟨seen_no hs, by omega⟩, x, q, rfl, rfl, hm, ?_⟩)))))))) 
        · rw [hhd]; rfl
        have nx : (decide ((0 : Int) ≤ k ∧ k < (↑x.length : Int)) = true) := decT ⟨h0, hk⟩
        refine condI (fun hq => ?_) fun hq => ?_
        · rcases hdir with rfl | ⟨_, j, hj, hji, hjd⟩
          · simp at hq
          have hjn : (j : Int).toNat < x.length := by omega
          rw [hji, it_nth hjn it0]
          refine condF (decF (by omega)) (oblP ⟨by omega, by omega⟩ (oblI (isIt _) (condF ?_ (oblI nx (oblI (isIt _) fun c hc => ?_)))))
          · show (!(x.getD (j : Int).toNat it0).2.2.1) = false
            rw [show (j : Int).toNat = j by omega, hjd]
            rfl
          · refine oblP ⟨by omega, by omega⟩ (oblP ⟨by omega, by omega⟩ ⟨b, ?_, rfl, by omega, condF (by rw [hs]; rfl) (oblI (incI (by omega) (by omega)) hn)⟩)
            rw [hc, hdr]
        · refine oblI nx (oblI (isIt _) fun c hc => ?_)
          refine oblP ⟨by omega, by omega⟩ (oblP ⟨by omega, by omega⟩ ⟨b, ?_, rfl, by omega, condF (by rw [hs]; rfl) (oblI (incI (by omega) (by omega)) hn)⟩)
          rw [hc, hdr])
    (by
      rintro s post ⟨x, rfl, ⟨h1, h2⟩, hp⟩
      exact ⟨x, 0, rfl, ⟨h1, h2, by omega⟩, fun y hy => by rw [hy]; exact hp⟩)
theorem okPaths : FD X 19 hPaths := FD.mk (H := []) (hk := [(2, loopHook (kpF 19 2) gPts)]) (by kernel_rfl) .nil (.cons loopPts .nil) (by
  intro ps R post hh
  obtain ⟨x, rfl, rfl, hm, hp⟩ := hh
  rw [← vcPtsB]
  exact ⟨x, rfl, hm, hp⟩)
end
section
variable {X : XF} (hX : XT X)
include hX
end
end Pi

/- Tree: clashes: what the runs ask. -/
namespace Pi
open Go Go.Proofs
set_option maxRecDepth 100000
set_option maxHeartbeats 0
abbrev idsB (l : List UInt8) : P := .d (.sl 1 (l.map bD))
def hF13C : KF1 := fun ps R post => ∃ l n x, ps = [.sl 0 0 n, .d (ixD x)] ∧ R = arL false l ∧ (n = l.length ∧ l.length ≤ 1000000) ∧ ∀ i, i = at13 l x → post (iD i, arL false l)
end Pi

/- Tree: the law of clashes. -/
namespace Pi
open Go Go.Proofs
set_option maxRecDepth 100000
section
variable {L : List Int}
end
section
variable {X : XF}
theorem isB5 (b : UInt8) : isD PR 5 (bD b) = true := rfl
theorem bD_nth' {l : List UInt8} {i : Nat} (h : i < l.length) : D.nth (l.map bD) i = bD (l.getD i 0) := by
  rw [nth_map bD l i h]
  simp [List.getD_eq_getElem?_getD, h]
theorem okF13C : FD X 22 hF13C := okF13L.weaken fun ps R post h => by
  obtain ⟨l, n, x, rfl, rfl, ⟨rfl, hm⟩, hp⟩ := h
  exact ⟨false, l, x, rfl, rfl, hm, hp _ rfl⟩
end
section
variable {X : XF} (hX : XT X)
include hX
end
theorem fitB8 {m : Nat} {x : D} (h : FitE PR (m + 1) 5 x) : ∃ b, x = bD b := by
  obtain ⟨n, rfl, hw⟩ := fitE_int Tryz.underlying5 h
  have hb : 0 ≤ n ∧ n ≤ 255 := by
    have h1 : IntKind.min .u8 = 0 := by decide
    have h2 : IntKind.max .u8 = 255 := by decide
    replace hw : (decide (IntKind.min .u8 ≤ n) && decide (n ≤ IntKind.max .u8)) = true := hw
    rw [h1, h2, Bool.and_eq_true, decide_eq_true_eq, decide_eq_true_eq] at hw
    exact hw
  refine ⟨UInt8.ofNat n.toNat, ?_⟩
  show D.int .u8 n = D.int .u8 _
  have : ((UInt8.ofNat n.toNat).toNat : Int) = n := by
    rw [UInt8.toNat_ofNat']
    omega
  rw [this]
theorem fitBs {m : Nat} {x : D} (h : FitE PR (m + 2) 33 x) : ∃ l : List UInt8, x = .sl 1 (l.map bD) := by
  obtain ⟨es, rfl, _, hy⟩ := fitE_slice (k := 1) Tryz.underlying33 (by kernel_rfl) h
  obtain ⟨l, rfl⟩ := fit_list bD _ (fun y hy => fitB8 hy) es hy
  exact ⟨l, rfl⟩
end Pi

/- Tree: small places: what the runs ask. -/
namespace Pi
open Go Go.Proofs
set_option maxRecDepth 100000
set_option maxHeartbeats 0
abbrev Stp13 := UInt8 × UInt8 × UInt8
def spE13 (p : Stp13) : D := .agg [.int .u8 (p.1.toNat : Int), .int .u8 (p.2.1.toNat : Int), .int .u8 (p.2.2.toNat : Int)]
abbrev stps13 (l : List Stp13) : P := .d (.sl 3 (l.map spE13))
abbrev ar13I (l : List Id3) : En := ⟨0, none, .arr 41 false (l.map ixD)⟩
abbrev ar13P (l : List Pl) : En := ⟨0, none, .arr 47 false (l.map plD)⟩
abbrev tdH13 (l : List Stp13) (a : List Id3) (o : List Pl) (n m : Nat) (i : Int) : S := ⟨73, [(0, stps13 l), (4, .sl 0 0 n), (5, .sl 1 0 m), (6, iD i)], [(0, ar13I a), (1, ar13P o)]⟩
def vcTd13_0 (l : List Stp13) (i : Int) : Bool := decide ((0 : Int) ≤ i ∧ i < (↑(List.length (List.map spE13 l)) : Int))
def vcTd13_1 (l : List Stp13) (i : Int) : D := D.nth (List.map spE13 l) (Int.toNat i)
noncomputable def vcTd13_2 (l : List Stp13) (i : Int) : Bool := isD PR (95 : TypeId) (vcTd13_1 l i)
def vcTd13_3  : Int := (-9223372036854775808 : Int)
def vcTd13_4 (l : List Stp13) (i : Int) : Int := D.iVal (D.cAt (vcTd13_1 l i) 0)
def vcTd13_5 (l : List Stp13) (i : Int) : Int := (1 : Int) + Int.tmod (vcTd13_4 l i) (8 : Int)
def vcTd13_6 (l : List Stp13) (i : Int) : Int := D.iVal (D.cAt (vcTd13_1 l i) 1)
def vcTd13_7 (l : List Stp13) (i : Int) : Int := Int.tmod (vcTd13_6 l i) (9 : Int)
def vcTd13_8 (l : List Stp13) (i : Int) : Int := D.iVal (D.cAt (vcTd13_1 l i) 2)
def vcTd13_9 (l : List Stp13) (i : Int) : Bool := decide (vcTd13_3 ≤ vcTd13_8 l i ∧ vcTd13_8 l i ≤ (9223372036854775807 : Int))
def vcTd13_10 (l : List Stp13) (i : Int) : Int := (10 : Int) + Int.tmod (vcTd13_8 l i) (30 : Int)
def vcTd13_11 (l : List Stp13) (i : Int) : Bool := decide (vcTd13_3 ≤ vcTd13_10 l i ∧ vcTd13_10 l i ≤ (9223372036854775807 : Int))
def vcTd13_12  : D := D.int IntKind.i64 (1 : Int)
def vcTd13_13 (l : List Stp13) (i : Int) : List D := [D.agg [D.int IntKind.i64 (vcTd13_10 l i), vcTd13_12, D.int IntKind.i64 i]]
def vcTd13_14 (l : List Stp13) (n : Nat) (i : Int) : Nat := n + List.length (vcTd13_13 l i)
def vcTd13_15 (l : List Stp13) (a : List Id3) (n : Nat) (i : Int) : Bool := Nat.ble n (List.length (List.map ixD a)) && roomOk (vcTd13_14 l n i) 24
def vcTd13_16  : D := D.int IntKind.i64 (0 : Int)
def vcTd13_17 (l : List Stp13) (i : Int) : List D := [vcTd13_16, D.str [(110 : UInt8)], D.bool (IntKind.wrap IntKind.u8 (↑(BitVec.toNat (BitVec.ofInt 8 (vcTd13_8 l i) &&& BitVec.ofInt 8 (1 : Int))) : Int) == (0 : Int))]
def vcTd13_18 (l : List Stp13) (i : Int) : List D := [D.agg (D.int IntKind.i64 (vcTd13_5 l i) :: vcTd13_12 :: vcTd13_16 :: D.int IntKind.i64 (vcTd13_7 l i) :: vcTd13_12 :: vcTd13_17 l i)]
def vcTd13_19 (l : List Stp13) (m : Nat) (i : Int) : Nat := m + List.length (vcTd13_18 l i)
def vcTd13_20 (i : Int) : Int := i + (1 : Int)
def vcTd13_21 (i : Int) : Bool := decide (vcTd13_3 ≤ vcTd13_20 i ∧ vcTd13_20 i ≤ (9223372036854775807 : Int))
def vcTd13_22 (l : List Stp13) : Nat × P := (0, P.d (D.sl 3 (List.map spE13 l)))
def vcTd13_23 (l : List Stp13) (n : Nat) (i : Int) : Nat × P := (4, P.sl 0 0 (vcTd13_14 l n i))
def vcTd13_24 (i : Int) : List (Nat × P) := [(6, P.d (D.int IntKind.i64 (vcTd13_20 i)))]
def vcTd13_25 (l : List Stp13) (a : List Id3) (n : Nat) (i : Int) : Nat × En := (0, En.mk 0 none (Obj.arr (41 : TypeId) false (List.take n (List.map ixD a) ++ vcTd13_13 l i)))
def vcTd13_26 (l : List Stp13) (i : Int) : List D := [D.agg (D.int IntKind.i64 (vcTd13_5 l i) :: vcTd13_12 :: vcTd13_16 :: vcTd13_16 :: vcTd13_16 :: vcTd13_17 l i)]
def vcTd13_27 (l : List Stp13) (m : Nat) (i : Int) : Nat := m + List.length (vcTd13_26 l i)
theorem vcTd13 (l : List Stp13) (a : List Id3) (o : List Pl) (n m : Nat) (i : Int) (post : PX × S → Prop) : (bif decide (i < (↑(List.length (List.map spE13 l)) : Int)) then bif decide (i < (40 : Int)) then bif vcTd13_0 l i then bif vcTd13_2 l i then bif decide (vcTd13_3 ≤ vcTd13_4 l i ∧ vcTd13_4 l i ≤ (9223372036854775807 : Int)) then bif decide (vcTd13_3 ≤ vcTd13_5 l i ∧ vcTd13_5 l i ≤ (9223372036854775807 : Int)) then bif vcTd13_0 l i then bif vcTd13_2 l i then bif decide (vcTd13_7 l i > (0 : Int)) then bif vcTd13_0 l i then bif vcTd13_2 l i then bif decide (vcTd13_3 ≤ vcTd13_6 l i ∧ vcTd13_6 l i ≤ (9223372036854775807 : Int)) then bif vcTd13_0 l i then bif vcTd13_2 l i then bif vcTd13_9 l i then bif vcTd13_11 l i then bif vcTd13_15 l a n i then bif vcTd13_0 l i then bif vcTd13_2 l i then bif Nat.ble m (List.length (List.map plD o)) && roomOk (vcTd13_19 l m i) 72 then bif vcTd13_21 i then post (PX.normal, S.mk 73 (vcTd13_22 l :: vcTd13_23 l n i :: (5, P.sl 1 0 (vcTd13_19 l m i)) :: vcTd13_24 i) [vcTd13_25 l a n i, (1, En.mk 0 none (Obj.arr (47 : TypeId) false (List.take m (List.map plD o) ++ vcTd13_18 l i)))]) else False else False else False else False else False else False else False else False else False else False else False else False else bif vcTd13_0 l i then bif vcTd13_2 l i then bif vcTd13_9 l i then bif vcTd13_11 l i then bif vcTd13_15 l a n i then bif vcTd13_0 l i then bif vcTd13_2 l i then bif Nat.ble m (List.length (List.map plD o)) && roomOk (vcTd13_27 l m i) 72 then bif vcTd13_21 i then post (PX.normal, S.mk 73 (vcTd13_22 l :: vcTd13_23 l n i :: (5, P.sl 1 0 (vcTd13_27 l m i)) :: vcTd13_24 i) [vcTd13_25 l a n i, (1, En.mk 0 none (Obj.arr (47 : TypeId) false (List.take m (List.map plD o) ++ vcTd13_26 l i)))]) else False else False else False else False else False else False else False else False else False else False else False else False else False else False else False else post (PX.exit 0, S.mk 73 [(4, P.sl 0 0 n), (5, P.sl 1 0 m)] [(0, En.mk 0 none (Obj.arr (41 : TypeId) false (List.map ixD a))), (1, En.mk 0 none (Obj.arr (47 : TypeId) false (List.map plD o)))]) else post (PX.exit 0, S.mk 73 [(4, P.sl 0 0 n), (5, P.sl 1 0 m)] [(0, En.mk 0 none (Obj.arr (41 : TypeId) false (List.map ixD a))), (1, En.mk 0 none (Obj.arr (47 : TypeId) false (List.map plD o)))])) = (roundL [] [] 40 4 (tdH13 l a o n m i)) post := by kernel_rfl
/-- What is told by steps: so much of it as is asked here. -/
def TdR (a : List Id3) (o : List Pl) : Prop := o.length ≤ 40 ∧ a.length = o.length ∧ ∀ p ∈ o, ∃ x : Int, 1 ≤ x ∧ x ≤ 8 ∧ p.1 = (x, 1, 0)
def gTd13 : S → K (PX × S) := fun s post => ∃ l, s = tdH13 l [] [] 0 0 0 ∧ ∀ a o n m, TdR a o → n = a.length → m = o.length → post (.exit 0, ⟨73, [(4, .sl 0 0 n), (5, .sl 1 0 m)], [(0, ar13I a), (1, ar13P o)]⟩)
theorem vcTd13B (l : List Stp13) (post : P × List (Nat × En) → Prop) : (∃ (l_1 : List Stp13), S.mk 73 [(0, P.d (D.sl 3 (List.map spE13 l))), (4, P.sl 0 0 0), (5, P.sl 1 0 0), (6, P.d (D.int IntKind.i64 (0 : Int)))] [(0, En.mk 0 none (Obj.arr 41 false [])), (1, En.mk 0 none (Obj.arr 47 false []))] = S.mk 73 [(0, P.d (D.sl 3 (List.map spE13 l_1))), (4, P.sl 0 0 0), (5, P.sl 1 0 0), (6, P.d (D.int IntKind.i64 (0 : Int)))] [(0, En.mk 0 none (Obj.arr 41 false [])), (1, En.mk 0 none (Obj.arr 47 false []))] ∧ ∀ (a : List Id3) (o : List Pl) (n m : Nat), TdR a o → n = List.length a → m = List.length o → post (P.tup [P.sl 0 0 n, P.sl 1 0 m], [(0, En.mk 0 none (Obj.arr 41 false (List.map ixD a))), (1, En.mk 0 none (Obj.arr 47 false (List.map plD o)))])) = (bodyF [] [(4, loopHook (kpF 40 4) gTd13)] 40 [stps13 l] []) post := by kernel_rfl
def hTold13 : KF1 := fun ps R post => ∃ l, ps = [stps13 l] ∧ R = [] ∧ ∀ a o n m, TdR a o → n = a.length → m = o.length → post (.tup [.sl 0 0 n, .sl 1 0 m], [(0, ar13I a), (1, ar13P o)])
end Pi

/- Tree: small places. -/
namespace Pi
open Go Go.Proofs
set_option maxRecDepth 100000
section
variable {X : XF}
theorem isSp13 (p : Stp13) : isD PR 95 (spE13 p) = true := rfl
theorem sp13_nth {l : List Stp13} {i : Nat} (h : i < l.length) : D.nth (l.map spE13) i = spE13 (l.getD i (0, 0, 0)) := by
  rw [nth_map spE13 l i h]
  simp [List.getD_eq_getElem?_getD, h]
theorem tmodB {b : UInt8} {n : Int} (h : 0 < n) : 0 ≤ Int.tmod (b.toNat : Int) n ∧ Int.tmod (b.toNat : Int) n < n := by
  have h0 : (0 : Int) ≤ (b.toNat : Int) := by omega
  exact ⟨Int.tmod_nonneg _ h0, Int.tmod_lt_of_pos _ h⟩
theorem loopTd13 : LD X 40 4 (loopHook (kpF 40 4) gTd13) :=
  LD.par (H := []) (hk := []) (by kernel_rfl) (by kernel_rfl) .nil .nil
    (A := List Stp13) (B := List Id3 × List Pl × Int) (fun l b => tdH13 l b.1 b.2.1 b.1.length b.2.1.length b.2.2)
    (fun _ b => b.1.length = b.2.1.length ∧ (b.2.1.length : Int) ≤ b.2.2 ∧ b.2.2 ≤ 40 ∧ ∀ p ∈ b.2.1, ∃ x : Int, 1 ≤ x ∧ x ≤ 8 ∧ p.1 = (x, 1, 0)) (fun _ b => (40 - b.2.2).toNat)
    (fun _ x => ∃ a o n m, TdR a o ∧ n = a.length ∧ m = o.length ∧ x = (.exit 0, ⟨73, [(4, .sl 0 0 n), (5, .sl 1 0 m)], [(0, ar13I a), (1, ar13P o)]⟩))
    (by
      rintro l ⟨a, o, i⟩ ⟨ha, hl, hi, ho⟩
      dsimp only at *
      (rw [← vcTd13]; delta vcTd13_0 vcTd13_1 vcTd13_2 vcTd13_3 vcTd13_4 vcTd13_5 vcTd13_6 vcTd13_7 vcTd13_8 vcTd13_9 vcTd13_10 vcTd13_11 vcTd13_12 vcTd13_13 vcTd13_14 vcTd13_15 vcTd13_16 vcTd13_17 vcTd13_18 vcTd13_19 vcTd13_20 vcTd13_21 vcTd13_22 vcTd13_23 vcTd13_24 vcTd13_25 vcTd13_26 vcTd13_27)
      have out : ∃ a' o' n m, TdR a' o' ∧ n = a'.length ∧ m = o'.length ∧ ((PX.exit 0, (⟨73, [(4, .sl 0 0 a.length), (5, .sl 1 0 o.length)], [(0, ar13I a), (1, ar13P o)]⟩ : S)) : PX × S) = (.exit 0, ⟨73, [(4, .sl 0 0 n), (5, .sl 1 0 m)], [(0, ar13I a'), (1, ar13P o')]⟩) :=
        ⟨a, o, _, _, ⟨by omega, ha, ho⟩, rfl, rfl, rfl⟩
      refine condP (fun h1 => condP (fun h2 => ?_) fun _ => out) fun _ => out
      rw [List.length_map] at h1
      have hk : i.toNat < l.length := by omega
      rw [sp13_nth hk]
      generalize l.getD i.toNat (0, 0, 0) = p
      obtain ⟨b1, b2, b3⟩ := p
      have e1 : D.iVal (D.cAt (spE13 (b1, b2, b3)) 0) = (b1.toNat : Int) := rfl
      have e2 : D.iVal (D.cAt (spE13 (b1, b2, b3)) 1) = (b2.toNat : Int) := rfl
      have e3 : D.iVal (D.cAt (spE13 (b1, b2, b3)) 2) = (b3.toNat : Int) := rfl
      rw [e1, e2, e3]
      have u1 : (b1.toNat : Int) < 256 := by have := b1.toNat_lt; omega
      have u2 : (b2.toNat : Int) < 256 := by have := b2.toNat_lt; omega
      have u3 : (b3.toNat : Int) < 256 := by have := b3.toNat_lt; omega
      have v1 : (0 : Int) ≤ (b1.toNat : Int) := by omega
      have v2 : (0 : Int) ≤ (b2.toNat : Int) := by omega
      have v3 : (0 : Int) ≤ (b3.toNat : Int) := by omega
      have m1 := tmodB (b := b1) (n := 8) (by decide)
      have m2 := tmodB (b := b2) (n := 9) (by decide)
      have m3 := tmodB (b := b3) (n := 30) (by decide)
      generalize (Int.tmod (b1.toNat : Int) 8) = t1 at m1 ⊢
      generalize (Int.tmod (b2.toNat : Int) 9) = t2 at m2 ⊢
      generalize (Int.tmod (b3.toNat : Int) 30) = t3 at m3 ⊢
      generalize (IntKind.wrap IntKind.u8 _ == (0 : Int)) = dr
      generalize (b1.toNat : Int) = w1 at u1 v1 ⊢
      generalize (b2.toNat : Int) = w2 at u2 v2 ⊢
      generalize (b3.toNat : Int) = w3 at u3 v3 ⊢
      simp only [List.length_map]
      have hin : decide ((0 : Int) ≤ i ∧ i < (l.length : Int)) = true := decT ⟨by omega, h1⟩
      have hla : a.length ≤ 40 := by omega
      have hlo : o.length ≤ 40 := by omega
      have next : ∀ par : Id3, roundPost (40 - i).toNat (fun m s => ∃ b' : List Id3 × List Pl × Int, s = tdH13 l b'.1 b'.2.1 b'.1.length b'.2.1.length b'.2.2 ∧ (b'.1.length = b'.2.1.length ∧ (b'.2.1.length : Int) ≤ b'.2.2 ∧ b'.2.2 ≤ 40 ∧ ∀ p ∈ b'.2.1, ∃ x : Int, 1 ≤ x ∧ x ≤ 8 ∧ p.1 = (x, 1, 0)) ∧ m = (40 - b'.2.2).toNat)
          (fun x => ∃ a o n m, TdR a o ∧ n = a.length ∧ m = o.length ∧ x = (.exit 0, ⟨73, [(4, .sl 0 0 n), (5, .sl 1 0 m)], [(0, ar13I a), (1, ar13P o)]⟩))
          (.normal, ⟨73, [(0, stps13 l), (4, .sl 0 0 (a.length + 1)), (5, .sl 1 0 (o.length + 1)), (6, iD (i + 1))], [(0, ⟨0, none, .arr 41 false (List.take a.length (a.map ixD) ++ [ixD (10 + t3, 1, i)])⟩), (1, ⟨0, none, .arr 47 false (List.take o.length (o.map plD) ++ [plD ((1 + t1, 1, 0), par, [110], dr)])⟩)]⟩) := by
        intro par
        refine ⟨(40 - (i + 1)).toNat, by omega, (a ++ [(10 + t3, 1, i)], o ++ [((1 + t1, 1, 0), par, [110], dr)], i + 1), ?_, ⟨by simp; omega, by simp; omega, by dsimp only; omega, ?_⟩, rfl⟩
        · rw [List.take_of_length_le (by simp), List.take_of_length_le (by simp)]
          simp
        · intro p hp
          rcases List.mem_append.1 hp with hp | hp
          · exact ho p hp
          · rw [List.mem_singleton.1 hp]
            exact ⟨1 + t1, by omega, by omega, rfl⟩
      repeat' (first
        | (refine oblI hin ?_)
        | (refine oblI (isSp13 _) ?_)
        | (refine oblP ⟨by omega, by omega⟩ ?_)
        | (refine condP (fun _ => ?_) fun _ => ?_)
        | (refine oblI (by simp [roomOk]; omega) ?_))
      · exact next (t2, 1, 0)
      · exact next (0, 0, 0))
    (by
      rintro s post ⟨t, rfl, h⟩
      refine ⟨t, ([], [], 0), rfl, ⟨rfl, by simp, by simp, by simp⟩, ?_⟩
      rintro x ⟨a, o, n, m, h1, h2, h3, rfl⟩
      exact h a o n m h1 h2 h3)
theorem okTold13 : FD X 40 hTold13 := FD.mk (H := []) (hk := [(4, loopHook (kpF 40 4) gTd13)]) (by kernel_rfl) .nil (.cons loopTd13 .nil) (by
  intro ps R post hh
  obtain ⟨l, rfl, rfl, hp⟩ := hh
  rw [← vcTd13B]
  exact ⟨l, rfl, hp⟩)
end
end Pi

/- Tree: small places: Replay: what the runs ask. -/
namespace Pi
open Go Go.Proofs
set_option maxRecDepth 100000
set_option maxHeartbeats 0
abbrev Td13 := Id3 × Pl
def tdD13 (x : Td13) : D := .agg [.int .i64 x.1.1, .int .i64 x.1.2.1, .int .i64 x.1.2.2, .int .i64 x.2.1.1, .int .i64 x.2.1.2.1, .int .i64 x.2.1.2.2, .int .i64 x.2.2.1.1, .int .i64 x.2.2.1.2.1, .int .i64 x.2.2.1.2.2, .str x.2.2.2.1, .bool x.2.2.2.2]
abbrev ar13T (l : List Td13) : En := ⟨0, none, .arr 100 false (l.map tdD13)⟩
abbrev soA (a : List Id3) (l : List Pl) (s : List Td13) (n : Nat) (i : Int) : S := ⟨93, [(0, idsP a), (1, plsP l), (5, .sl 0 0 n), (6, iD i)], [(0, ar13T s)]⟩
abbrev soB (a : List Id3) (l : List Pl) (s : List Td13) (n : Nat) (i : Int) (h : Bool) (k : Int) : S := ⟨93, [(0, idsP a), (1, plsP l), (5, .sl 0 0 n), (6, iD i), (7, .d (.bool h)), (8, iD k)], [(0, ar13T s)]⟩
abbrev soC (a : List Id3) (l : List Pl) (s : List Td13) (n : Nat) (i k : Int) : S := ⟨93, [(0, idsP a), (1, plsP l), (5, .sl 0 0 n), (6, iD i), (9, iD k)], [(0, ar13T s)]⟩
theorem vcSoB (a : List Id3) (l : List Pl) (s : List Td13) (n : Nat) (i : Int) (h : Bool) (k : Int) (post : PX × S → Prop) : (bif decide (k < (↑n : Int)) then bif h then bif decide ((-9223372036854775808 : Int) ≤ k + (1 : Int) ∧ k + (1 : Int) ≤ (9223372036854775807 : Int)) then post (PX.normal, S.mk 93 [(0, P.d (D.sl 3 (List.map ixD a))), (1, P.d (D.sl 8 (List.map plD l))), (5, P.sl 0 0 n), (6, P.d (D.int IntKind.i64 i)), (7, P.d (D.bool true)), (8, P.d (D.int IntKind.i64 (k + (1 : Int))))] [(0, En.mk 0 none (Obj.arr 100 false (List.map tdD13 s)))]) else False else bif decide ((0 : Int) ≤ k ∧ k < (↑n : Int)) then bif decide (Int.toNat k < List.length (List.map tdD13 s)) then bif isD PR (100 : TypeId) (D.nth (List.map tdD13 s) (Int.toNat k)) then bif decide ((0 : Int) ≤ i ∧ i < (↑(List.length (List.map ixD a)) : Int)) then bif isD PR 41 (D.nth (List.map ixD a) (Int.toNat i)) then bif decide ((-9223372036854775808 : Int) ≤ k + (1 : Int) ∧ k + (1 : Int) ≤ (9223372036854775807 : Int)) then post (PX.normal, S.mk 93 [(0, P.d (D.sl 3 (List.map ixD a))), (1, P.d (D.sl 8 (List.map plD l))), (5, P.sl 0 0 n), (6, P.d (D.int IntKind.i64 i)), (7, P.d (D.bool (D.iVal (D.cAt (D.nth (List.map tdD13 s) (Int.toNat k)) 0) == D.iVal (D.cAt (D.nth (List.map ixD a) (Int.toNat i)) 0) && (D.iVal (D.cAt (D.nth (List.map tdD13 s) (Int.toNat k)) 1) == D.iVal (D.cAt (D.nth (List.map ixD a) (Int.toNat i)) 1) && true) && (D.iVal (D.cAt (D.nth (List.map tdD13 s) (Int.toNat k)) 2) == D.iVal (D.cAt (D.nth (List.map ixD a) (Int.toNat i)) 2) && true)))), (8, P.d (D.int IntKind.i64 (k + (1 : Int))))] [(0, En.mk 0 none (Obj.arr 100 false (List.map tdD13 s)))]) else False else False else False else False else False else False else post (PX.exit 2, S.mk 93 [(0, P.d (D.sl 3 (List.map ixD a))), (1, P.d (D.sl 8 (List.map plD l))), (5, P.sl 0 0 n), (6, P.d (D.int IntKind.i64 i)), (7, P.d (D.bool h))] [(0, En.mk 0 none (Obj.arr 100 false (List.map tdD13 s)))])) = (roundL [] [] 61 7 (soB a l s n i h k)) post := by kernel_rfl
def gSoB : S → K (PX × S) := fun s post => ∃ a l t n i, s = soB a l t n i false 0 ∧ (n = t.length ∧ n ≤ 1000000 ∧ 0 ≤ i ∧ i < a.length) ∧ ∀ b, post (.exit 2, ⟨93, [(0, idsP a), (1, plsP l), (5, .sl 0 0 n), (6, iD i), (7, .d (.bool b))], [(0, ar13T t)]⟩)
def vcSoC_0 (n : Nat) (k : Int) : Bool := decide ((0 : Int) ≤ k ∧ k < (↑n : Int))
def vcSoC_1 (s : List Td13) : Nat := List.length (List.map tdD13 s)
def vcSoC_2 (s : List Td13) (k : Int) : Bool := decide (Int.toNat k < vcSoC_1 s)
def vcSoC_3 (s : List Td13) (k : Int) : D := D.nth (List.map tdD13 s) (Int.toNat k)
noncomputable def vcSoC_4 (s : List Td13) (k : Int) : Bool := isD PR (100 : TypeId) (vcSoC_3 s k)
def vcSoC_5 (k : Int) : Int := k - (1 : Int)
def vcSoC_6 (k : Int) : Bool := decide ((-9223372036854775808 : Int) ≤ vcSoC_5 k ∧ vcSoC_5 k ≤ (9223372036854775807 : Int))
def vcSoC_7 (n : Nat) (k : Int) : Bool := decide ((0 : Int) ≤ vcSoC_5 k ∧ vcSoC_5 k < (↑n : Int))
def vcSoC_8 (s : List Td13) (k : Int) : Bool := decide (Int.toNat (vcSoC_5 k) < vcSoC_1 s)
def vcSoC_9 (s : List Td13) (k : Int) : D := D.nth (List.map tdD13 s) (Int.toNat (vcSoC_5 k))
def vcSoC_10 (s : List Td13) (k : Int) : D := D.int IntKind.i64 (D.iVal (D.cAt (vcSoC_3 s k) 0))
def vcSoC_11 (s : List Td13) (k : Int) : D := D.int IntKind.i64 (D.iVal (D.cAt (vcSoC_3 s k) 1))
def vcSoC_12 (s : List Td13) (k : Int) : D := D.int IntKind.i64 (D.iVal (D.cAt (vcSoC_3 s k) 2))
def vcSoC_13 (s : List Td13) (k : Int) : D := D.int IntKind.i64 (D.iVal (D.cAt (vcSoC_9 s k) 0))
def vcSoC_14 (s : List Td13) (k : Int) : D := D.int IntKind.i64 (D.iVal (D.cAt (vcSoC_9 s k) 1))
def vcSoC_15 (s : List Td13) (k : Int) : D := D.int IntKind.i64 (D.iVal (D.cAt (vcSoC_9 s k) 2))
def vcSoC_16 (s : List Td13) (k : Int) : List D := [vcSoC_10 s k, vcSoC_11 s k, vcSoC_12 s k, D.int IntKind.i64 (D.iVal (D.cAt (vcSoC_3 s k) 3)), D.int IntKind.i64 (D.iVal (D.cAt (vcSoC_3 s k) 4)), D.int IntKind.i64 (D.iVal (D.cAt (vcSoC_3 s k) 5)), D.int IntKind.i64 (D.iVal (D.cAt (vcSoC_3 s k) 6)), D.int IntKind.i64 (D.iVal (D.cAt (vcSoC_3 s k) 7)), D.int IntKind.i64 (D.iVal (D.cAt (vcSoC_3 s k) 8)), D.str (D.sVal (D.cAt (vcSoC_3 s k) 9)), D.bool (D.bVal (D.cAt (vcSoC_3 s k) 10))]
def vcSoC_17 (s : List Td13) (k : Int) : List D := List.set (List.map tdD13 s) (Int.toNat k) (D.withCells (D.agg (vcSoC_16 s k)) [vcSoC_13 s k, vcSoC_14 s k, vcSoC_15 s k, D.int IntKind.i64 (D.iVal (D.cAt (vcSoC_9 s k) 3)), D.int IntKind.i64 (D.iVal (D.cAt (vcSoC_9 s k) 4)), D.int IntKind.i64 (D.iVal (D.cAt (vcSoC_9 s k) 5)), D.int IntKind.i64 (D.iVal (D.cAt (vcSoC_9 s k) 6)), D.int IntKind.i64 (D.iVal (D.cAt (vcSoC_9 s k) 7)), D.int IntKind.i64 (D.iVal (D.cAt (vcSoC_9 s k) 8)), D.str (D.sVal (D.cAt (vcSoC_9 s k) 9)), D.bool (D.bVal (D.cAt (vcSoC_9 s k) 10))])
def vcSoC_18 (s : List Td13) (k : Int) : D := D.nth (vcSoC_17 s k) (Int.toNat (vcSoC_5 k))
def vcSoC_19 (a : List Id3) : Nat × P := (0, P.d (D.sl 3 (List.map ixD a)))
def vcSoC_20 (l : List Pl) : Nat × P := (1, P.d (D.sl 8 (List.map plD l)))
def vcSoC_21 (n : Nat) : Nat × P := (5, P.sl 0 0 n)
def vcSoC_22 (i : Int) : Nat × P := (6, P.d (D.int IntKind.i64 i))
theorem vcSoC (a : List Id3) (l : List Pl) (s : List Td13) (n : Nat) (i k : Int) (post : PX × S → Prop) : (bif decide (k > (0 : Int)) then bif vcSoC_0 n k then bif vcSoC_2 s k then bif vcSoC_4 s k then bif vcSoC_6 k then bif vcSoC_7 n k then bif vcSoC_8 s k then bif isD PR (100 : TypeId) (vcSoC_9 s k) then ∃ (t : Int), ∃ (r : Int), ∃ (i_1 : Int), ∃ (t' : Int), ∃ (r' : Int), ∃ (i' : Int), [P.d (D.agg [vcSoC_10 s k, vcSoC_11 s k, vcSoC_12 s k]), P.d (D.agg [vcSoC_13 s k, vcSoC_14 s k, vcSoC_15 s k])] = [P.d (D.agg [D.int IntKind.i64 t, D.int IntKind.i64 r, D.int IntKind.i64 i_1]), P.d (D.agg [D.int IntKind.i64 t', D.int IntKind.i64 r', D.int IntKind.i64 i'])] ∧ EqR [] [] ∧ bif decide (cmpId t r i_1 t' r' i' < (0 : Int)) then bif vcSoC_6 k then bif vcSoC_6 k then bif vcSoC_7 n k then bif vcSoC_8 s k then bif isD PR (100 : TypeId) (vcSoC_9 s k) then bif vcSoC_0 n k then bif vcSoC_2 s k then bif vcSoC_4 s k then bif vcSoC_0 n k then bif vcSoC_2 s k then bif vcSoC_4 s k then bif vcSoC_7 n k then bif decide (Int.toNat (vcSoC_5 k) < List.length (vcSoC_17 s k)) then bif isD PR (100 : TypeId) (vcSoC_18 s k) then bif vcSoC_6 k then post (PX.normal, S.mk 93 [vcSoC_19 a, vcSoC_20 l, vcSoC_21 n, vcSoC_22 i, (9, P.d (D.int IntKind.i64 (vcSoC_5 k)))] [(0, En.mk 0 none (Obj.arr (100 : TypeId) false (List.set (vcSoC_17 s k) (Int.toNat (vcSoC_5 k)) (D.withCells (D.agg [D.int IntKind.i64 (D.iVal (D.cAt (vcSoC_18 s k) 0)), D.int IntKind.i64 (D.iVal (D.cAt (vcSoC_18 s k) 1)), D.int IntKind.i64 (D.iVal (D.cAt (vcSoC_18 s k) 2)), D.int IntKind.i64 (D.iVal (D.cAt (vcSoC_18 s k) 3)), D.int IntKind.i64 (D.iVal (D.cAt (vcSoC_18 s k) 4)), D.int IntKind.i64 (D.iVal (D.cAt (vcSoC_18 s k) 5)), D.int IntKind.i64 (D.iVal (D.cAt (vcSoC_18 s k) 6)), D.int IntKind.i64 (D.iVal (D.cAt (vcSoC_18 s k) 7)), D.int IntKind.i64 (D.iVal (D.cAt (vcSoC_18 s k) 8)), D.str (D.sVal (D.cAt (vcSoC_18 s k) 9)), D.bool (D.bVal (D.cAt (vcSoC_18 s k) 10))]) (vcSoC_16 s k)))))]) else False else False else False else False else False else False else False else False else False else False else False else False else False else False else False else post (PX.exit 4, S.mk 93 [vcSoC_19 a, vcSoC_20 l, vcSoC_21 n, vcSoC_22 i] [(0, En.mk 0 none (Obj.arr (100 : TypeId) false (List.map tdD13 s)))]) else False else False else False else False else False else False else False else post (PX.exit 4, S.mk 93 [vcSoC_19 a, vcSoC_20 l, vcSoC_21 n, vcSoC_22 i] [(0, En.mk 0 none (Obj.arr (100 : TypeId) false (List.map tdD13 s)))])) = (roundL [(62, hCmpId)] [] 61 13 (soC a l s n i k)) post := by kernel_rfl
def gSoC : S → K (PX × S) := fun s post => ∃ a l t n i k, s = soC a l t n i k ∧ (n = t.length ∧ n ≤ 1000000 ∧ k < n) ∧ ∀ t', t'.Perm t → post (.exit 4, ⟨93, [(0, idsP a), (1, plsP l), (5, .sl 0 0 n), (6, iD i)], [(0, ar13T t')]⟩)
def vcSoA_0 (n : Nat) : Nat × P := (5, P.sl 0 0 n)
def vcSoA_1  : List (Nat × P) := [(7, P.d (D.bool false)), (8, P.d (D.int IntKind.i64 (0 : Int)))]
def vcSoA_2 (s : List Td13) : List (Nat × En) := [(0, En.mk 0 none (Obj.arr (100 : TypeId) false (List.map tdD13 s)))]
def vcSoA_3 (v0 : List Id3) : Nat × P := (0, P.d (D.sl 3 (List.map ixD v0)))
def vcSoA_4 (v1 : List Pl) : Nat × P := (1, P.d (D.sl 8 (List.map plD v1)))
def vcSoA_5 (v3 : Nat) : Nat × P := (5, P.sl 0 0 v3)
def vcSoA_6 (v4 : Int) : Nat × P := (6, P.d (D.int IntKind.i64 v4))
def vcSoA_7 (v2 : List Td13) : List (Nat × En) := [(0, En.mk 0 none (Obj.arr (100 : TypeId) false (List.map tdD13 v2)))]
def vcSoA_8  : Int := (-9223372036854775808 : Int)
def vcSoA_9 (v4 : Int) : Int := v4 + (1 : Int)
def vcSoA_10 (v0 : List Id3) (v4 : Int) : D := D.nth (List.map ixD v0) (Int.toNat v4)
def vcSoA_11 (v1 : List Pl) (v4 : Int) : D := D.nth (List.map plD v1) (Int.toNat v4)
def vcSoA_12 (v0 : List Id3) (v1 : List Pl) (v4 : Int) : List D := [D.agg [D.int IntKind.i64 (D.iVal (D.cAt (vcSoA_10 v0 v4) 0)), D.int IntKind.i64 (D.iVal (D.cAt (vcSoA_10 v0 v4) 1)), D.int IntKind.i64 (D.iVal (D.cAt (vcSoA_10 v0 v4) 2)), D.int IntKind.i64 (D.iVal (D.cAt (vcSoA_11 v1 v4) 0)), D.int IntKind.i64 (D.iVal (D.cAt (vcSoA_11 v1 v4) 1)), D.int IntKind.i64 (D.iVal (D.cAt (vcSoA_11 v1 v4) 2)), D.int IntKind.i64 (D.iVal (D.cAt (vcSoA_11 v1 v4) 3)), D.int IntKind.i64 (D.iVal (D.cAt (vcSoA_11 v1 v4) 4)), D.int IntKind.i64 (D.iVal (D.cAt (vcSoA_11 v1 v4) 5)), D.str (D.sVal (D.cAt (vcSoA_11 v1 v4) 6)), D.bool (D.bVal (D.cAt (vcSoA_11 v1 v4) 7))]]
def vcSoA_13 (v0 : List Id3) (v1 : List Pl) (v3 : Nat) (v4 : Int) : Nat := v3 + List.length (vcSoA_12 v0 v1 v4)
def vcSoA_14 (v0 : List Id3) (v1 : List Pl) (v3 : Nat) (v4 : Int) : Int := (↑(vcSoA_13 v0 v1 v3 v4) : Int) - (1 : Int)
def vcSoA_15 (v6 : List Id3) : Nat × P := (0, P.d (D.sl 3 (List.map ixD v6)))
def vcSoA_16 (v7 : List Pl) : Nat × P := (1, P.d (D.sl 8 (List.map plD v7)))
def vcSoA_17 (v9 : Nat) : Nat × P := (5, P.sl 0 0 v9)
def vcSoA_18 (v10 : Int) : Int := v10 + (1 : Int)
theorem vcSoA (a : List Id3) (l : List Pl) (s : List Td13) (n : Nat) (i : Int) (post : PX × S → Prop) : (bif decide (i < (↑(List.length (List.map ixD a)) : Int)) then bif decide (i < (↑(List.length (List.map plD l)) : Int)) then ∃ (a_1 : List Id3), ∃ (l_1 : List Pl), ∃ (t : List Td13), ∃ (n_1 : Nat), ∃ (i_1 : Int), S.mk 93 ((0, P.d (D.sl 3 (List.map ixD a))) :: (1, P.d (D.sl 8 (List.map plD l))) :: vcSoA_0 n :: (6, P.d (D.int IntKind.i64 i)) :: vcSoA_1) (vcSoA_2 s) = S.mk 93 (vcSoA_3 a_1 :: vcSoA_4 l_1 :: vcSoA_5 n_1 :: vcSoA_6 i_1 :: vcSoA_1) (vcSoA_7 t) ∧ (n_1 = List.length t ∧ n_1 ≤ 1000000 ∧ (0 : Int) ≤ i_1 ∧ i_1 < (↑(List.length a_1) : Int)) ∧ ∀ (b : Bool), bif b then bif decide (vcSoA_8 ≤ vcSoA_9 i_1 ∧ vcSoA_9 i_1 ≤ (9223372036854775807 : Int)) then post (PX.normal, S.mk 93 [vcSoA_3 a_1, vcSoA_4 l_1, vcSoA_5 n_1, (6, P.d (D.int IntKind.i64 (vcSoA_9 i_1)))] (vcSoA_7 t)) else False else bif decide ((0 : Int) ≤ i_1 ∧ i_1 < (↑(List.length (List.map ixD a_1)) : Int)) then bif isD PR (41 : TypeId) (vcSoA_10 a_1 i_1) then bif decide ((0 : Int) ≤ i_1 ∧ i_1 < (↑(List.length (List.map plD l_1)) : Int)) then bif isD PR (47 : TypeId) (vcSoA_11 l_1 i_1) then bif Nat.ble n_1 (List.length (List.map tdD13 t)) && roomOk (vcSoA_13 a_1 l_1 n_1 i_1) 96 then bif decide (vcSoA_8 ≤ vcSoA_14 a_1 l_1 n_1 i_1 ∧ vcSoA_14 a_1 l_1 n_1 i_1 ≤ (9223372036854775807 : Int)) then ∃ (a : List Id3), ∃ (l : List Pl), ∃ (t_1 : List Td13), ∃ (n : Nat), ∃ (i : Int), ∃ (k : Int), S.mk 93 [vcSoA_3 a_1, vcSoA_4 l_1, (5, P.sl 0 0 (vcSoA_13 a_1 l_1 n_1 i_1)), vcSoA_6 i_1, (9, P.d (D.int IntKind.i64 (vcSoA_14 a_1 l_1 n_1 i_1)))] [(0, En.mk 0 none (Obj.arr (100 : TypeId) false (List.take n_1 (List.map tdD13 t) ++ vcSoA_12 a_1 l_1 i_1)))] = S.mk 93 [vcSoA_15 a, vcSoA_16 l, vcSoA_17 n, (6, P.d (D.int IntKind.i64 i)), (9, P.d (D.int IntKind.i64 k))] [(0, En.mk 0 none (Obj.arr (100 : TypeId) false (List.map tdD13 t_1)))] ∧ (n = List.length t_1 ∧ n ≤ 1000000 ∧ k < (↑n : Int)) ∧ ∀ (t' : List Td13), List.Perm t' t_1 → bif decide (vcSoA_8 ≤ vcSoA_18 i ∧ vcSoA_18 i ≤ (9223372036854775807 : Int)) then post (PX.normal, S.mk 93 [vcSoA_15 a, vcSoA_16 l, vcSoA_17 n, (6, P.d (D.int IntKind.i64 (vcSoA_18 i)))] [(0, En.mk 0 none (Obj.arr (100 : TypeId) false (List.map tdD13 t')))]) else False else False else False else False else False else False else False else post (PX.exit 0, S.mk 93 [vcSoA_0 n] (vcSoA_2 s)) else post (PX.exit 0, S.mk 93 [vcSoA_0 n] (vcSoA_2 s))) = (roundL [] [(7, loopHook (kpF 61 7) gSoB), (13, loopHook (kpF 61 13) gSoC)] 61 3 (soA a l s n i)) post := by kernel_rfl
/-- What is told, sorted: so much of it as is asked here. -/
def SoR (l : List Pl) (t : List Td13) : Prop := t.length ≤ l.length ∧ ∀ x ∈ t, x.2 ∈ l
def gSoA : S → K (PX × S) := fun s post => ∃ a l, s = soA a l [] 0 0 ∧ l.length ≤ 1000 ∧ ∀ t n, SoR l t → n = t.length → post (.exit 0, ⟨93, [(5, .sl 0 0 n)], [(0, ar13T t)]⟩)
theorem vcSoT (a : List Id3) (l : List Pl) (post : P × List (Nat × En) → Prop) : (∃ (a_1 : List Id3), ∃ (l_1 : List Pl), S.mk 93 [(0, P.d (D.sl 3 (List.map ixD a))), (1, P.d (D.sl 8 (List.map plD l))), (5, P.sl 0 0 0), (6, P.d (D.int IntKind.i64 (0 : Int)))] [(0, En.mk 0 none (Obj.arr 100 false []))] = S.mk 93 [(0, P.d (D.sl 3 (List.map ixD a_1))), (1, P.d (D.sl 8 (List.map plD l_1))), (5, P.sl 0 0 0), (6, P.d (D.int IntKind.i64 (0 : Int)))] [(0, En.mk 0 none (Obj.arr 100 false []))] ∧ List.length l_1 ≤ 1000 ∧ ∀ (t : List Td13) (n : Nat), SoR l_1 t → n = List.length t → post (P.sl 0 0 n, [(0, En.mk 0 none (Obj.arr 100 false (List.map tdD13 t)))])) = (bodyF [] [(3, loopHook (kpF 61 3) gSoA)] 61 [idsP a, plsP l] []) post := by kernel_rfl
def hSorted13 : KF1 := fun ps R post => ∃ a l, ps = [idsP a, plsP l] ∧ R = [] ∧ l.length ≤ 1000 ∧ ∀ t n, SoR l t → n = t.length → post (.sl 0 0 n, [(0, ar13T t)])
end Pi

/- Tree: small places: what is told, sorted. -/
namespace Pi
open Go Go.Proofs
set_option maxRecDepth 100000
def td13 : Td13 := ((0, 0, 0), pl0)
theorem split2 {α : Type} : ∀ (s : List α) (k : Nat), k + 1 < s.length → ∃ pre b a suf, s = pre ++ b :: a :: suf ∧ pre.length = k
  | [], k, h => by simp at h
  | [x], k, h => by simp at h
  | x :: y :: s, 0, _ => ⟨[], x, y, s, rfl, rfl⟩
  | x :: y :: s, k + 1, h => by
    obtain ⟨pre, b, a, suf, he, hk⟩ := split2 (y :: s) k (by simpa using h)
    exact ⟨x :: pre, b, a, suf, by rw [he]; rfl, by simp [hk]⟩
theorem swap_perm {α : Type} (pre suf : List α) (b a : α) : (pre ++ a :: b :: suf).Perm (pre ++ b :: a :: suf) := List.Perm.append_left _ (List.Perm.swap ..)
theorem isTd13 (x : Td13) : isD PR 100 (tdD13 x) = true := rfl
theorem td13_nth {l : List Td13} {i : Nat} (h : i < l.length) : D.nth (l.map tdD13) i = tdD13 (l.getD i td13) := by
  rw [nth_map tdD13 l i h]
  simp [List.getD_eq_getElem?_getD, h]
section
variable {X : XF}
theorem loopSoB : LD X 61 7 (loopHook (kpF 61 7) gSoB) :=
  LD.par (H := []) (hk := []) (by kernel_rfl) (by kernel_rfl) .nil .nil
    (A := List Id3 × List Pl × List Td13 × Int) (B := Bool × Int) (fun a b => soB a.1 a.2.1 a.2.2.1 a.2.2.1.length a.2.2.2 b.1 b.2)
    (fun a b => a.2.2.1.length ≤ 1000000 ∧ 0 ≤ a.2.2.2 ∧ a.2.2.2 < a.1.length ∧ 0 ≤ b.2) (fun a b => (a.2.2.1.length - b.2).toNat)
    (fun a x => ∃ b : Bool, x = (.exit 2, ⟨93, [(0, idsP a.1), (1, plsP a.2.1), (5, .sl 0 0 a.2.2.1.length), (6, iD a.2.2.2), (7, .d (.bool b))], [(0, ar13T a.2.2.1)]⟩))
    (by
      rintro ⟨a, l, t, i⟩ ⟨h, k⟩ ⟨hm, hi0, hi, h0⟩
      dsimp only at *
      rw [← vcSoB]
      refine condP (fun hk => ?_) fun hk => ⟨_, rfl⟩
      refine condI (fun _ => oblP ⟨by omega, by omega⟩ ⟨(t.length - (k + 1)).toNat, by omega, (true, k + 1), rfl, ⟨hm, hi0, hi, by dsimp only; omega⟩, rfl⟩) fun _ => ?_
      have hkn : k.toNat < t.length := by omega
      have hin : i.toNat < a.length := by omega
      rw [td13_nth hkn, ix_nth hin]
      exact oblP ⟨by omega, by omega⟩ (oblI (decT (by rw [List.length_map]; exact hkn)) (oblI (isTd13 _) (oblI (decT (by rw [List.length_map]; exact ⟨hi0, hi⟩)) (oblI (isIx _) (oblP ⟨by omega, by omega⟩ ⟨(t.length - (k + 1)).toNat, by omega, (_, k + 1), rfl, ⟨hm, hi0, hi, by dsimp only; omega⟩, rfl⟩))))))
    (by
      rintro s post ⟨a, l, t, n, i, rfl, ⟨rfl, hm, hi0, hi⟩, hp⟩
      refine ⟨(a, l, t, i), (false, 0), rfl, ⟨hm, hi0, hi, by simp⟩, ?_⟩
      rintro x ⟨b, rfl⟩
      exact hp b)
theorem loopSoC : LD X 61 13 (loopHook (kpF 61 13) gSoC) :=
  LD.par (H := [(62, hCmpId)]) (hk := []) (by kernel_rfl) (by kernel_rfl) (.cons okCmpIdR .nil) .nil
    (A := List Id3 × List Pl × List Td13 × Int) (B := List Td13 × Int) (fun a b => soC a.1 a.2.1 b.1 a.2.2.1.length a.2.2.2 b.2)
    (fun a b => a.2.2.1.length ≤ 1000000 ∧ b.1.Perm a.2.2.1 ∧ b.2 < a.2.2.1.length) (fun _ b => b.2.toNat)
    (fun a x => ∃ t', t'.Perm a.2.2.1 ∧ x = (.exit 4, ⟨93, [(0, idsP a.1), (1, plsP a.2.1), (5, .sl 0 0 a.2.2.1.length), (6, iD a.2.2.2)], [(0, ar13T t')]⟩))
    (by
      rintro ⟨a, l, t, i⟩ ⟨s, k⟩ ⟨hm, hs, hk⟩
      dsimp only at *
      have hsl := hs.length_eq
      (rw [← vcSoC]; delta vcSoC_0 vcSoC_1 vcSoC_2 vcSoC_3 vcSoC_4 vcSoC_5 vcSoC_6 vcSoC_7 vcSoC_8 vcSoC_9 vcSoC_10 vcSoC_11 vcSoC_12 vcSoC_13 vcSoC_14 vcSoC_15 vcSoC_16 vcSoC_17 vcSoC_18 vcSoC_19 vcSoC_20 vcSoC_21 vcSoC_22)
      refine condP (fun hpos => ?_) fun _ => ⟨s, hs, rfl⟩
      obtain ⟨pre, b, c, suf, rfl, hpre⟩ := split2 s (k - 1).toNat (by omega)
      have hk1 : k.toNat = pre.length + 1 := by omega
      have hk2 : (k - 1).toNat = pre.length := by omega
      have hlen : ((pre ++ b :: c :: suf).map tdD13).length = t.length := by rw [List.length_map]; exact hsl
      have hsl' : pre.length + suf.length + 2 = t.length := by rw [← hsl]; simp; omega
      have n1 : D.nth ((pre ++ b :: c :: suf).map tdD13) (pre.length + 1) = tdD13 c := by rw [td13_nth (by simp)]; simp [List.getD_eq_getElem?_getD]
      have n2 : D.nth ((pre ++ b :: c :: suf).map tdD13) pre.length = tdD13 b := by rw [td13_nth (by simp)]; simp [List.getD_eq_getElem?_getD]
      have n3 : ∀ u, D.nth (((pre ++ b :: c :: suf).map tdD13).set (pre.length + 1) u) pre.length = tdD13 b := fun u => by
        rw [← n2]
        simp only [D.nth, List.getD_eq_getElem?_getD]
        rw [List.getElem?_set_ne (by omega)]
      rw [hk1, hk2, n1, n2]
      simp only [List.length_set, hlen, n3]
      repeat (first
        | refine oblI (decT (show _ ∧ _ from ⟨by omega, by omega⟩)) ?_
        | refine oblI (decT (show _ < _ by omega)) ?_
        | refine oblI (isTd13 _) ?_)
      refine ⟨c.1.1, c.1.2.1, c.1.2.2, b.1.1, b.1.2.1, b.1.2.2, rfl, rfl, ?_⟩
      refine condP (fun _ => ?_) fun _ => ⟨_, hs, rfl⟩
      repeat (first
        | refine oblI (decT (show _ ∧ _ from ⟨by omega, by omega⟩)) ?_
        | refine oblI (decT (show _ < _ by omega)) ?_
        | refine oblI (isTd13 _) ?_)
      refine ⟨pre.length, by omega, (pre ++ c :: b :: suf, k - 1), ?_, ⟨hm, (swap_perm ..).trans hs, by dsimp only; omega⟩, by dsimp only; omega⟩
      have hsw := swap_set tdD13 pre suf b c (tdD13 b) (tdD13 c) rfl rfl
      simp only [soC, ar13T]
      rw [← hsw]
      rfl)
    (by
      rintro s post ⟨a, l, t, n, i, k, rfl, ⟨rfl, hm, hk⟩, hp⟩
      refine ⟨(a, l, t, i), (t, k), rfl, ⟨hm, List.Perm.refl _, hk⟩, ?_⟩
      rintro x ⟨t', ht, rfl⟩
      exact hp t' ht)
theorem loopSoA : LD X 61 3 (loopHook (kpF 61 3) gSoA) :=
  LD.par (H := []) (hk := [(7, loopHook (kpF 61 7) gSoB), (13, loopHook (kpF 61 13) gSoC)]) (by kernel_rfl) (by kernel_rfl) .nil (.cons loopSoB (.cons loopSoC .nil))
    (A := List Id3 × List Pl) (B := List Td13 × Int) (fun a b => soA a.1 a.2 b.1 b.1.length b.2)
    (fun a b => a.2.length ≤ 1000 ∧ (b.1.length : Int) ≤ b.2 ∧ b.2 ≤ a.2.length ∧ ∀ x ∈ b.1, x.2 ∈ a.2) (fun a b => (a.2.length - b.2).toNat)
    (fun a x => ∃ t n, SoR a.2 t ∧ n = t.length ∧ x = (.exit 0, ⟨93, [(5, .sl 0 0 n)], [(0, ar13T t)]⟩))
    (by
      rintro ⟨a, l⟩ ⟨s, i⟩ ⟨hm, hs, hi, hx⟩
      dsimp only at *
      (rw [← vcSoA]; delta vcSoA_0 vcSoA_1 vcSoA_2 vcSoA_3 vcSoA_4 vcSoA_5 vcSoA_6 vcSoA_7 vcSoA_8 vcSoA_9 vcSoA_10 vcSoA_11 vcSoA_12 vcSoA_13 vcSoA_14 vcSoA_15 vcSoA_16 vcSoA_17 vcSoA_18)
      have out : ∃ t n, SoR l t ∧ n = t.length ∧ ((PX.exit 0, (⟨93, [(5, .sl 0 0 s.length)], [(0, ar13T s)]⟩ : S)) : PX × S) = (.exit 0, ⟨93, [(5, .sl 0 0 n)], [(0, ar13T t)]⟩) := ⟨s, _, ⟨by omega, hx⟩, rfl, rfl⟩
      refine condP (fun h1 => condP (fun h2 => ?_) fun _ => out) fun _ => out
      rw [List.length_map] at h1 h2
      refine ⟨a, l, s, s.length, i, rfl, ⟨rfl, by omega, by omega, h1⟩, fun b => ?_⟩
      refine condI (fun _ => oblP ⟨by omega, by omega⟩ ⟨(l.length - (i + 1)).toNat, by omega, (s, i + 1), rfl, ⟨hm, by dsimp only; omega, by dsimp only; omega, hx⟩, rfl⟩) fun _ => ?_
      have hia : i.toNat < a.length := by omega
      have hil : i.toNat < l.length := by omega
      rw [ix_nth hia, pl_nth hil]
      have hpm : l.getD i.toNat pl0 ∈ l := List.mem_of_getElem? (getD_some hil pl0)
      simp only [List.length_map, List.length_cons, List.length_nil]
      generalize hc : ((s.length + (0 + 1) : Nat) : Int) = c
      have hin : decide ((0 : Int) ≤ i ∧ i < (a.length : Int)) = true := decT ⟨by omega, h1⟩
      have hjn : decide ((0 : Int) ≤ i ∧ i < (l.length : Int)) = true := decT ⟨by omega, h2⟩
      refine oblI hin (oblI (isIx _) (oblI hjn (oblI (isPl _) (oblI (by simp [roomOk]; omega) (oblP ⟨by omega, by omega⟩ ?_)))))
      refine ⟨a, l, s ++ [(a.getD i.toNat (0, 0, 0), l.getD i.toNat pl0)], s.length + 1, i, c - 1, ?_, ⟨by simp, by omega, by omega⟩, fun t' ht => ?_⟩
      · rw [List.take_of_length_le (by simp)]
        simp only [List.map_append, List.map_cons, List.map_nil]
        rfl
      · have htl := ht.length_eq
        simp at htl
        refine oblP ⟨by omega, by omega⟩ ⟨(l.length - (i + 1)).toNat, by omega, (t', i + 1), ?_, ⟨hm, by dsimp only; omega, by dsimp only; omega, fun x hx' => ?_⟩, rfl⟩
        · simp only [soA, htl]
        · rcases List.mem_append.1 (ht.mem_iff.1 hx') with h | h
          · exact hx x h
          · rw [List.mem_singleton.1 h]
            exact hpm)
    (by
      rintro s post ⟨a, l, rfl, hm, hp⟩
      refine ⟨(a, l), ([], 0), rfl, ⟨hm, by simp, by simp, by simp⟩, ?_⟩
      rintro x ⟨t, n, h1, h2, rfl⟩
      exact hp t n h1 h2)
theorem okSorted13 : FD X 61 hSorted13 := FD.mk (H := []) (hk := [(3, loopHook (kpF 61 3) gSoA)]) (by kernel_rfl) .nil (.cons loopSoA .nil) (by
  intro ps R post hh
  obtain ⟨a, l, rfl, rfl, hm, hp⟩ := hh
  rw [← vcSoT]
  exact ⟨a, l, rfl, hm, hp⟩)
end
end Pi

/- Tree: small places: Replay: what the runs ask. -/
namespace Pi
open Go Go.Proofs
set_option maxRecDepth 100000
set_option maxHeartbeats 0
abbrev rp13A (t : List Td13) (o : List Pl) (n m : Nat) (i : Int) : S := ⟨96, [(5, .sl 0 0 n), (6, .sl 1 0 m), (7, iD i)], [(0, ar13T t), (1, ar13P o)]⟩
abbrev rp13B (t : List Td13) (o : List Pl) (n m : Nat) (i k : Int) : S := ⟨96, [(5, .sl 0 0 n), (6, .sl 1 0 m), (7, iD i), (10, iD k)], [(0, ar13T t), (1, ar13P o)]⟩
def hWi13 : KF1 := fun ps R post => ∃ l n x y, ps = [.sl 0 0 n, .d (ixD x), .d (ixD y)] ∧ R = arL false l ∧ (n = l.length ∧ l.length ≤ 1000000) ∧ ∀ b, post (.d (.bool b), arL false l)
def vcRp13B_0 (m : Nat) (k : Int) : Bool := decide ((0 : Int) ≤ k ∧ k < (↑m : Int))
def vcRp13B_1 (o : List Pl) : Nat := List.length (List.map plD o)
def vcRp13B_2 (o : List Pl) (k : Int) : Bool := decide (Int.toNat k < vcRp13B_1 o)
def vcRp13B_3 (o : List Pl) (k : Int) : D := D.nth (List.map plD o) (Int.toNat k)
noncomputable def vcRp13B_4 (o : List Pl) (k : Int) : Bool := isD PR (47 : TypeId) (vcRp13B_3 o k)
def vcRp13B_5 (k : Int) : Int := k - (1 : Int)
def vcRp13B_6 (k : Int) : Bool := decide ((-9223372036854775808 : Int) ≤ vcRp13B_5 k ∧ vcRp13B_5 k ≤ (9223372036854775807 : Int))
def vcRp13B_7 (m : Nat) (k : Int) : Bool := decide ((0 : Int) ≤ vcRp13B_5 k ∧ vcRp13B_5 k < (↑m : Int))
def vcRp13B_8 (o : List Pl) (k : Int) : Bool := decide (Int.toNat (vcRp13B_5 k) < vcRp13B_1 o)
def vcRp13B_9 (o : List Pl) (k : Int) : D := D.nth (List.map plD o) (Int.toNat (vcRp13B_5 k))
def vcRp13B_10 (o : List Pl) (k : Int) : D := D.int IntKind.i64 (D.iVal (D.cAt (vcRp13B_3 o k) 0))
def vcRp13B_11 (o : List Pl) (k : Int) : D := D.int IntKind.i64 (D.iVal (D.cAt (vcRp13B_3 o k) 1))
def vcRp13B_12 (o : List Pl) (k : Int) : D := D.int IntKind.i64 (D.iVal (D.cAt (vcRp13B_3 o k) 2))
def vcRp13B_13 (o : List Pl) (k : Int) : D := D.int IntKind.i64 (D.iVal (D.cAt (vcRp13B_9 o k) 0))
def vcRp13B_14 (o : List Pl) (k : Int) : D := D.int IntKind.i64 (D.iVal (D.cAt (vcRp13B_9 o k) 1))
def vcRp13B_15 (o : List Pl) (k : Int) : D := D.int IntKind.i64 (D.iVal (D.cAt (vcRp13B_9 o k) 2))
def vcRp13B_16 (o : List Pl) (k : Int) : List D := [vcRp13B_10 o k, vcRp13B_11 o k, vcRp13B_12 o k, D.int IntKind.i64 (D.iVal (D.cAt (vcRp13B_3 o k) 3)), D.int IntKind.i64 (D.iVal (D.cAt (vcRp13B_3 o k) 4)), D.int IntKind.i64 (D.iVal (D.cAt (vcRp13B_3 o k) 5)), D.str (D.sVal (D.cAt (vcRp13B_3 o k) 6)), D.bool (D.bVal (D.cAt (vcRp13B_3 o k) 7))]
def vcRp13B_17 (o : List Pl) (k : Int) : List D := List.set (List.map plD o) (Int.toNat k) (D.withCells (D.agg (vcRp13B_16 o k)) [vcRp13B_13 o k, vcRp13B_14 o k, vcRp13B_15 o k, D.int IntKind.i64 (D.iVal (D.cAt (vcRp13B_9 o k) 3)), D.int IntKind.i64 (D.iVal (D.cAt (vcRp13B_9 o k) 4)), D.int IntKind.i64 (D.iVal (D.cAt (vcRp13B_9 o k) 5)), D.str (D.sVal (D.cAt (vcRp13B_9 o k) 6)), D.bool (D.bVal (D.cAt (vcRp13B_9 o k) 7))])
def vcRp13B_18 (o : List Pl) (k : Int) : D := D.nth (vcRp13B_17 o k) (Int.toNat (vcRp13B_5 k))
def vcRp13B_19 (n : Nat) : Nat × P := (5, P.sl 0 0 n)
def vcRp13B_20 (m : Nat) : Nat × P := (6, P.sl 1 0 m)
def vcRp13B_21 (i : Int) : Nat × P := (7, P.d (D.int IntKind.i64 i))
def vcRp13B_22 (t : List Td13) : Nat × En := (0, En.mk 0 none (Obj.arr (100 : TypeId) false (List.map tdD13 t)))
theorem vcRp13B (t : List Td13) (o : List Pl) (n m : Nat) (i k : Int) (post : PX × S → Prop) : (bif decide (k > (0 : Int)) then bif vcRp13B_0 m k then bif vcRp13B_2 o k then bif vcRp13B_4 o k then bif vcRp13B_6 k then bif vcRp13B_7 m k then bif vcRp13B_8 o k then bif isD PR (47 : TypeId) (vcRp13B_9 o k) then ∃ (t_1 : Int), ∃ (r : Int), ∃ (i_1 : Int), ∃ (t' : Int), ∃ (r' : Int), ∃ (i' : Int), [P.d (D.agg [vcRp13B_10 o k, vcRp13B_11 o k, vcRp13B_12 o k]), P.d (D.agg [vcRp13B_13 o k, vcRp13B_14 o k, vcRp13B_15 o k])] = [P.d (D.agg [D.int IntKind.i64 t_1, D.int IntKind.i64 r, D.int IntKind.i64 i_1]), P.d (D.agg [D.int IntKind.i64 t', D.int IntKind.i64 r', D.int IntKind.i64 i'])] ∧ EqR [] [] ∧ bif decide (cmpId t_1 r i_1 t' r' i' < (0 : Int)) then bif vcRp13B_6 k then bif vcRp13B_6 k then bif vcRp13B_7 m k then bif vcRp13B_8 o k then bif isD PR (47 : TypeId) (vcRp13B_9 o k) then bif vcRp13B_0 m k then bif vcRp13B_2 o k then bif vcRp13B_4 o k then bif vcRp13B_0 m k then bif vcRp13B_2 o k then bif vcRp13B_4 o k then bif vcRp13B_7 m k then bif decide (Int.toNat (vcRp13B_5 k) < List.length (vcRp13B_17 o k)) then bif isD PR (47 : TypeId) (vcRp13B_18 o k) then bif vcRp13B_6 k then post (PX.normal, S.mk 96 [vcRp13B_19 n, vcRp13B_20 m, vcRp13B_21 i, (10, P.d (D.int IntKind.i64 (vcRp13B_5 k)))] [vcRp13B_22 t, (1, En.mk 0 none (Obj.arr (47 : TypeId) false (List.set (vcRp13B_17 o k) (Int.toNat (vcRp13B_5 k)) (D.withCells (D.agg [D.int IntKind.i64 (D.iVal (D.cAt (vcRp13B_18 o k) 0)), D.int IntKind.i64 (D.iVal (D.cAt (vcRp13B_18 o k) 1)), D.int IntKind.i64 (D.iVal (D.cAt (vcRp13B_18 o k) 2)), D.int IntKind.i64 (D.iVal (D.cAt (vcRp13B_18 o k) 3)), D.int IntKind.i64 (D.iVal (D.cAt (vcRp13B_18 o k) 4)), D.int IntKind.i64 (D.iVal (D.cAt (vcRp13B_18 o k) 5)), D.str (D.sVal (D.cAt (vcRp13B_18 o k) 6)), D.bool (D.bVal (D.cAt (vcRp13B_18 o k) 7))]) (vcRp13B_16 o k)))))]) else False else False else False else False else False else False else False else False else False else False else False else False else False else False else False else post (PX.exit 2, S.mk 96 [vcRp13B_19 n, vcRp13B_20 m, vcRp13B_21 i] [vcRp13B_22 t, (1, En.mk 0 none (Obj.arr (47 : TypeId) false (List.map plD o)))]) else False else False else False else False else False else False else False else post (PX.exit 2, S.mk 96 [vcRp13B_19 n, vcRp13B_20 m, vcRp13B_21 i] [vcRp13B_22 t, (1, En.mk 0 none (Obj.arr (47 : TypeId) false (List.map plD o)))])) = (roundL [(62, hCmpId)] [] 41 14 (rp13B t o n m i k)) post := by kernel_rfl
def gRp13B : S → K (PX × S) := fun s post => ∃ t o n m i k, s = rp13B t o n m i k ∧ (m = o.length ∧ m ≤ 1000000 ∧ k < m) ∧ ∀ o', o'.Perm o → post (.exit 2, rp13A t o' n m i)
def vcRp13A_0 (t : List Td13) (i : Int) : D := D.nth (List.map tdD13 t) (Int.toNat i)
def vcRp13A_1  : Int := (-9223372036854775808 : Int)
def vcRp13A_2 (i : Int) : Int := i + (1 : Int)
def vcRp13A_3 (i : Int) : Bool := decide (vcRp13A_1 ≤ vcRp13A_2 i ∧ vcRp13A_2 i ≤ (9223372036854775807 : Int))
def vcRp13A_4 (n : Nat) : Nat × P := (5, P.sl 0 0 n)
def vcRp13A_5 (n : Nat) (m : Nat) (i : Int) : List (Nat × P) := [vcRp13A_4 n, (6, P.sl 1 0 m), (7, P.d (D.int IntKind.i64 (vcRp13A_2 i)))]
def vcRp13A_6 (t : List Td13) : Nat × En := (0, En.mk 0 none (Obj.arr (100 : TypeId) false (List.map tdD13 t)))
def vcRp13A_7 (o : List Pl) : Obj := Obj.arr (47 : TypeId) false (List.map plD o)
def vcRp13A_8 (m : Nat) : P := P.sl 0 0 m
def vcRp13A_9 (t : List Td13) (i : Int) : D := D.int IntKind.i64 (D.iVal (D.cAt (vcRp13A_0 t i) 6))
def vcRp13A_10 (t : List Td13) (i : Int) : D := D.int IntKind.i64 (D.iVal (D.cAt (vcRp13A_0 t i) 7))
def vcRp13A_11 (t : List Td13) (i : Int) : D := D.int IntKind.i64 (D.iVal (D.cAt (vcRp13A_0 t i) 8))
def vcRp13A_12 (t : List Td13) (i : Int) : D := D.int IntKind.i64 (D.iVal (D.cAt (vcRp13A_0 t i) 3))
def vcRp13A_13 (t : List Td13) (i : Int) : D := D.int IntKind.i64 (D.iVal (D.cAt (vcRp13A_0 t i) 4))
def vcRp13A_14 (t : List Td13) (i : Int) : D := D.int IntKind.i64 (D.iVal (D.cAt (vcRp13A_0 t i) 5))
def vcRp13A_15 (t : List Td13) (i : Int) : List P := [P.d (D.agg [vcRp13A_12 t i, vcRp13A_13 t i, vcRp13A_14 t i])]
def vcRp13A_16 (v0 : List Pl) : Obj := Obj.arr (47 : TypeId) false (List.map plD v0)
def vcRp13A_17 (v0 : List Pl) : List (Nat × En) := [(0, En.mk 0 (some 0) (vcRp13A_16 v0))]
def vcRp13A_18 (m : Nat) (v8 : Int) : Bool := decide ((0 : Int) ≤ v8 ∧ v8 < (↑m : Int))
def vcRp13A_19 (v5 : List Pl) (v8 : Int) : Bool := decide (Int.toNat v8 < List.length (List.map plD v5))
def vcRp13A_20 (v5 : List Pl) (v8 : Int) : D := D.nth (List.map plD v5) (Int.toNat v8)
def vcRp13A_21 (v5 : List Pl) (v8 : Int) : List D := [D.bool (D.bVal (D.cAt (vcRp13A_20 v5 v8) 7))]
def vcRp13A_22 (t : List Td13) (i : Int) : List D := [D.agg [vcRp13A_12 t i, vcRp13A_13 t i, vcRp13A_14 t i, vcRp13A_9 t i, vcRp13A_10 t i, vcRp13A_11 t i, D.str (D.sVal (D.cAt (vcRp13A_0 t i) 9)), D.bool (D.bVal (D.cAt (vcRp13A_0 t i) 10))]]
def vcRp13A_23 (t : List Td13) (m : Nat) (i : Int) : Nat := m + List.length (vcRp13A_22 t i)
def vcRp13A_24 (t : List Td13) (m : Nat) (i : Int) : Int := (↑(vcRp13A_23 t m i) : Int) - (1 : Int)
def vcRp13A_25 (v12 : Nat) : Nat × P := (5, P.sl 0 0 v12)
def vcRp13A_26 (v13 : Nat) : Nat × P := (6, P.sl 1 0 v13)
def vcRp13A_27 (v10 : List Td13) : Nat × En := (0, En.mk 0 none (Obj.arr (100 : TypeId) false (List.map tdD13 v10)))
def vcRp13A_28 (v14 : Int) : Int := v14 + (1 : Int)
theorem vcRp13A (t : List Td13) (o : List Pl) (n m : Nat) (i : Int) (post : PX × S → Prop) : (bif decide (i < (↑n : Int)) then bif decide ((0 : Int) ≤ i ∧ i < (↑n : Int)) then bif decide (Int.toNat i < List.length (List.map tdD13 t)) then bif isD PR (100 : TypeId) (vcRp13A_0 t i) then bif D.iVal (D.cAt (vcRp13A_0 t i) 3) == (0 : Int) && (D.iVal (D.cAt (vcRp13A_0 t i) 4) == (0 : Int) && true) && (D.iVal (D.cAt (vcRp13A_0 t i) 5) == (0 : Int) && true) then bif vcRp13A_3 i then post (PX.normal, S.mk 96 (vcRp13A_5 n m i) [vcRp13A_6 t, (1, En.mk 0 none (vcRp13A_7 o))]) else False else ∃ (l : List Pl), ∃ (n_1 : Nat), ∃ (x : Id3), ∃ (y : Id3), vcRp13A_8 m :: P.d (D.agg [vcRp13A_9 t i, vcRp13A_10 t i, vcRp13A_11 t i]) :: vcRp13A_15 t i = [P.sl 0 0 n_1, P.d (D.agg [D.int IntKind.i64 (Prod.fst x), D.int IntKind.i64 (Prod.fst (Prod.snd x)), D.int IntKind.i64 (Prod.snd (Prod.snd x))]), P.d (D.agg [D.int IntKind.i64 (Prod.fst y), D.int IntKind.i64 (Prod.fst (Prod.snd y)), D.int IntKind.i64 (Prod.snd (Prod.snd y))])] ∧ [(0, En.mk 0 (some 0) (vcRp13A_7 o))] = vcRp13A_17 l ∧ (n_1 = List.length l ∧ List.length l ≤ 1000000) ∧ ∀ (b : Bool), bif b then bif vcRp13A_3 i then post (PX.normal, S.mk 96 (vcRp13A_5 n m i) [vcRp13A_6 t, (1, En.mk 0 none (vcRp13A_16 l))]) else False else ∃ (l_1 : List Pl), ∃ (n_2 : Nat), ∃ (x : Id3), vcRp13A_8 m :: vcRp13A_15 t i = [P.sl 0 0 n_2, P.d (D.agg [D.int IntKind.i64 (Prod.fst x), D.int IntKind.i64 (Prod.fst (Prod.snd x)), D.int IntKind.i64 (Prod.snd (Prod.snd x))])] ∧ vcRp13A_17 l = [(0, En.mk 0 (some 0) (Obj.arr (47 : TypeId) false (List.map plD l_1)))] ∧ (n_2 = List.length l_1 ∧ List.length l_1 ≤ 1000000) ∧ ∀ (i_1 : Int), i_1 = at13 l_1 x → bif decide (i_1 ≥ (0 : Int)) then bif vcRp13A_18 m i_1 then bif vcRp13A_19 l_1 i_1 then bif isD PR (47 : TypeId) (vcRp13A_20 l_1 i_1) then bif vcRp13A_18 m i_1 then bif vcRp13A_19 l_1 i_1 then bif isD PR (47 : TypeId) (vcRp13A_20 l_1 i_1) then bif vcRp13A_3 i then post (PX.normal, S.mk 96 (vcRp13A_5 n m i) [vcRp13A_6 t, (1, En.mk 0 none (Obj.arr (47 : TypeId) false (List.set (List.map plD l_1) (Int.toNat i_1) (D.withCells (D.agg (D.int IntKind.i64 (D.iVal (D.cAt (vcRp13A_20 l_1 i_1) 0)) :: D.int IntKind.i64 (D.iVal (D.cAt (vcRp13A_20 l_1 i_1) 1)) :: D.int IntKind.i64 (D.iVal (D.cAt (vcRp13A_20 l_1 i_1) 2)) :: D.int IntKind.i64 (D.iVal (D.cAt (vcRp13A_20 l_1 i_1) 3)) :: D.int IntKind.i64 (D.iVal (D.cAt (vcRp13A_20 l_1 i_1) 4)) :: D.int IntKind.i64 (D.iVal (D.cAt (vcRp13A_20 l_1 i_1) 5)) :: D.str (D.sVal (D.cAt (vcRp13A_20 l_1 i_1) 6)) :: vcRp13A_21 l_1 i_1)) (vcRp13A_12 t i :: vcRp13A_13 t i :: vcRp13A_14 t i :: vcRp13A_9 t i :: vcRp13A_10 t i :: vcRp13A_11 t i :: D.str (D.sVal (D.cAt (vcRp13A_0 t i) 9)) :: vcRp13A_21 l_1 i_1)))))]) else False else False else False else False else False else False else False else bif Nat.ble m (List.length (List.map plD l_1)) && roomOk (vcRp13A_23 t m i) 72 then bif decide (vcRp13A_1 ≤ vcRp13A_24 t m i ∧ vcRp13A_24 t m i ≤ (9223372036854775807 : Int)) then ∃ (t_1 : List Td13), ∃ (o : List Pl), ∃ (n_3 : Nat), ∃ (m_1 : Nat), ∃ (i_2 : Int), ∃ (k : Int), S.mk 96 [vcRp13A_4 n, (6, P.sl 1 0 (vcRp13A_23 t m i)), (7, P.d (D.int IntKind.i64 i)), (10, P.d (D.int IntKind.i64 (vcRp13A_24 t m i)))] [vcRp13A_6 t, (1, En.mk 0 none (Obj.arr (47 : TypeId) false (List.take m (List.map plD l_1) ++ vcRp13A_22 t i)))] = S.mk 96 [vcRp13A_25 n_3, vcRp13A_26 m_1, (7, P.d (D.int IntKind.i64 i_2)), (10, P.d (D.int IntKind.i64 k))] [vcRp13A_27 t_1, (1, En.mk 0 none (Obj.arr (47 : TypeId) false (List.map plD o)))] ∧ (m_1 = List.length o ∧ m_1 ≤ 1000000 ∧ k < (↑m_1 : Int)) ∧ ∀ (o' : List Pl), List.Perm o' o → bif decide (vcRp13A_1 ≤ vcRp13A_28 i_2 ∧ vcRp13A_28 i_2 ≤ (9223372036854775807 : Int)) then post (PX.normal, S.mk 96 [vcRp13A_25 n_3, vcRp13A_26 m_1, (7, P.d (D.int IntKind.i64 (vcRp13A_28 i_2)))] [vcRp13A_27 t_1, (1, En.mk 0 none (Obj.arr (47 : TypeId) false (List.map plD o')))]) else False else False else False else False else False else False else post (PX.exit 0, S.mk 96 [(6, vcRp13A_8 m)] [(0, En.mk 0 none (vcRp13A_7 o))])) = (roundL [(57, hWi13), (22, hF13C)] [(14, loopHook (kpF 41 14) gRp13B)] 41 4 (rp13A t o n m i)) post := by kernel_rfl
/-- Where nodes are in the end: so much of it as is asked here. -/
def RpR (l : List Pl) (o : List Pl) : Prop := o.length ≤ l.length ∧ (o.map (·.1)).Nodup ∧ ∀ p ∈ o, ∃ q ∈ l, p.1 = q.1
def gRp13A : S → K (PX × S) := fun s post => ∃ t n, s = rp13A t [] n 0 0 ∧ (n = t.length ∧ n ≤ 1000) ∧ ∀ o m, RpR (t.map (·.2)) o → m = o.length → post (.exit 0, ⟨96, [(6, .sl 0 0 m)], [(0, ar13P o)]⟩)
theorem vcRp13 (a : List Id3) (l : List Pl) (post : P × List (Nat × En) → Prop) : (∃ (a_1 : List Id3), ∃ (l_1 : List Pl), [P.d (D.sl 3 (List.map ixD a)), P.d (D.sl 8 (List.map plD l))] = [P.d (D.sl 3 (List.map ixD a_1)), P.d (D.sl 8 (List.map plD l_1))] ∧ EqR [] [] ∧ List.length l_1 ≤ 1000 ∧ ∀ (t : List Td13) (n : Nat), SoR l_1 t → n = List.length t → ∃ (t_1 : List Td13), ∃ (n_1 : Nat), S.mk 96 [(5, P.sl 0 0 n), (6, P.sl 1 0 0), (7, P.d (D.int IntKind.i64 (0 : Int)))] [(0, En.mk 0 none (Obj.arr 100 false (List.map tdD13 t))), (1, En.mk 0 none (Obj.arr 47 false []))] = S.mk 96 [(5, P.sl 0 0 n_1), (6, P.sl 1 0 0), (7, P.d (D.int IntKind.i64 (0 : Int)))] [(0, En.mk 0 none (Obj.arr 100 false (List.map tdD13 t_1))), (1, En.mk 0 none (Obj.arr 47 false []))] ∧ (n_1 = List.length t_1 ∧ n_1 ≤ 1000) ∧ ∀ (o : List Pl) (m : Nat), RpR (List.map (fun (x : Td13) => Prod.snd x) t_1) o → m = List.length o → post (P.sl 0 0 m, [(0, En.mk 0 none (Obj.arr 47 false (List.map plD o)))])) = (bodyF [(61, hSorted13)] [(4, loopHook (kpF 41 4) gRp13A)] 41 [idsP a, plsP l] []) post := by kernel_rfl
def hReplay13 : KF1 := fun ps R post => ∃ a l, ps = [idsP a, plsP l] ∧ R = [] ∧ l.length ≤ 1000 ∧ ∀ o m, RpR l o → m = o.length → post (.sl 0 0 m, [(0, ar13P o)])
end Pi

/- Tree: small places: where nodes are in the end. -/
namespace Pi
open Go Go.Proofs
set_option maxRecDepth 100000
section
variable {X : XF}
theorem okWi13 : FD X 57 hWi13 := okWiL.weaken fun ps R post h => by
  obtain ⟨l, n, x, y, rfl, rfl, ⟨rfl, hm⟩, hp⟩ := h
  exact ⟨false, l, x, y, rfl, rfl, hm, fun b _ => hp b⟩
theorem loopRp13B : LD X 41 14 (loopHook (kpF 41 14) gRp13B) :=
  LD.par (H := [(62, hCmpId)]) (hk := []) (by kernel_rfl) (by kernel_rfl) (.cons okCmpIdR .nil) .nil
    (A := List Td13 × Nat × List Pl × Int) (B := List Pl × Int) (fun a b => rp13B a.1 b.1 a.2.1 a.2.2.1.length a.2.2.2 b.2)
    (fun a b => a.2.2.1.length ≤ 1000000 ∧ b.1.Perm a.2.2.1 ∧ b.2 < a.2.2.1.length) (fun _ b => b.2.toNat)
    (fun a x => ∃ t', t'.Perm a.2.2.1 ∧ x = (.exit 2, rp13A a.1 t' a.2.1 a.2.2.1.length a.2.2.2))
    (by
      rintro ⟨a, l, t, i⟩ ⟨s, k⟩ ⟨hm, hs, hk⟩
      dsimp only at *
      have hsl := hs.length_eq
      (rw [← vcRp13B]; delta vcRp13B_0 vcRp13B_1 vcRp13B_2 vcRp13B_3 vcRp13B_4 vcRp13B_5 vcRp13B_6 vcRp13B_7 vcRp13B_8 vcRp13B_9 vcRp13B_10 vcRp13B_11 vcRp13B_12 vcRp13B_13 vcRp13B_14 vcRp13B_15 vcRp13B_16 vcRp13B_17 vcRp13B_18 vcRp13B_19 vcRp13B_20 vcRp13B_21 vcRp13B_22)
      refine condP (fun hpos => ?_) fun _ => ⟨s, hs, rfl⟩
      obtain ⟨pre, b, c, suf, rfl, hpre⟩ := split2 s (k - 1).toNat (by omega)
      have hk1 : k.toNat = pre.length + 1 := by omega
      have hk2 : (k - 1).toNat = pre.length := by omega
      have hlen : ((pre ++ b :: c :: suf).map plD).length = t.length := by rw [List.length_map]; exact hsl
      have hsl' : pre.length + suf.length + 2 = t.length := by rw [← hsl]; simp; omega
      have n1 : D.nth ((pre ++ b :: c :: suf).map plD) (pre.length + 1) = plD c := by rw [pl_nth (by simp)]; simp [List.getD_eq_getElem?_getD]
      have n2 : D.nth ((pre ++ b :: c :: suf).map plD) pre.length = plD b := by rw [pl_nth (by simp)]; simp [List.getD_eq_getElem?_getD]
      have n3 : ∀ u, D.nth (((pre ++ b :: c :: suf).map plD).set (pre.length + 1) u) pre.length = plD b := fun u => by
        rw [← n2]
        simp only [D.nth, List.getD_eq_getElem?_getD]
        rw [List.getElem?_set_ne (by omega)]
      rw [hk1, hk2, n1, n2]
      simp only [List.length_set, hlen, n3]
      repeat (first
        | refine oblI (decT (show _ ∧ _ from ⟨by omega, by omega⟩)) ?_
        | refine oblI (decT (show _ < _ by omega)) ?_
        | refine oblI (isPl _) ?_)
      refine ⟨c.1.1, c.1.2.1, c.1.2.2, b.1.1, b.1.2.1, b.1.2.2, rfl, rfl, ?_⟩
      refine condP (fun _ => ?_) fun _ => ⟨_, hs, rfl⟩
      repeat (first
        | refine oblI (decT (show _ ∧ _ from ⟨by omega, by omega⟩)) ?_
        | refine oblI (decT (show _ < _ by omega)) ?_
        | refine oblI (isPl _) ?_)
      refine ⟨pre.length, by omega, (pre ++ c :: b :: suf, k - 1), ?_, ⟨hm, (swap_perm ..).trans hs, by dsimp only; omega⟩, by dsimp only; omega⟩
      have hsw := swap_set plD pre suf b c (plD b) (plD c) rfl rfl
      simp only [rp13B, ar13P]
      rw [← hsw]
      rfl)
    (by
      rintro s post ⟨a, t, l, n, i, k, rfl, ⟨rfl, hm, hk⟩, hp⟩
      refine ⟨(a, l, t, i), (t, k), rfl, ⟨hm, List.Perm.refl _, hk⟩, ?_⟩
      rintro x ⟨t', ht, rfl⟩
      exact hp t' ht)
theorem loopRp13A : LD X 41 4 (loopHook (kpF 41 4) gRp13A) :=
  LD.par (H := [(57, hWi13), (22, hF13C)]) (hk := [(14, loopHook (kpF 41 14) gRp13B)]) (by kernel_rfl) (by kernel_rfl) (.cons okWi13 (.cons okF13C .nil)) (.cons loopRp13B .nil)
    (A := List Td13) (B := List Pl × Int) (fun t b => rp13A t b.1 t.length b.1.length b.2)
    (fun t b => t.length ≤ 1000 ∧ (b.1.length : Int) ≤ b.2 ∧ b.2 ≤ t.length ∧ (b.1.map (·.1)).Nodup ∧ ∀ p ∈ b.1, ∃ q ∈ t.map (·.2), p.1 = q.1) (fun t b => (t.length - b.2).toNat)
    (fun t x => ∃ o m, RpR (t.map (·.2)) o ∧ m = o.length ∧ x = (.exit 0, ⟨96, [(6, .sl 0 0 m)], [(0, ar13P o)]⟩))
    (by
      rintro t ⟨o, i⟩ ⟨hm, hs, hi, hn, hx⟩
      dsimp only at *
      (rw [← vcRp13A]; delta vcRp13A_0 vcRp13A_1 vcRp13A_2 vcRp13A_3 vcRp13A_4 vcRp13A_5 vcRp13A_6 vcRp13A_7 vcRp13A_8 vcRp13A_9 vcRp13A_10 vcRp13A_11 vcRp13A_12 vcRp13A_13 vcRp13A_14 vcRp13A_15 vcRp13A_16 vcRp13A_17 vcRp13A_18 vcRp13A_19 vcRp13A_20 vcRp13A_21 vcRp13A_22 vcRp13A_23 vcRp13A_24 vcRp13A_25 vcRp13A_26 vcRp13A_27 vcRp13A_28)
      refine condP (fun h1 => ?_) fun _ => ⟨o, _, ⟨by rw [List.length_map]; omega, hn, hx⟩, rfl, rfl⟩
      have hit : i.toNat < t.length := by omega
      have hmem : t.getD i.toNat td13 ∈ t := List.mem_of_getElem? (getD_some hit td13)
      rw [td13_nth hit]
      generalize t.getD i.toNat td13 = y at hmem
      have next : ∀ o' : List Pl, o'.length = o.length → (o'.map (·.1)).Nodup → (∀ p ∈ o', ∃ q ∈ t.map (·.2), p.1 = q.1) → roundPost (t.length - i).toNat (fun m s => ∃ b' : List Pl × Int, s = rp13A t b'.1 t.length b'.1.length b'.2 ∧ (t.length ≤ 1000 ∧ (b'.1.length : Int) ≤ b'.2 ∧ b'.2 ≤ t.length ∧ (b'.1.map (·.1)).Nodup ∧ ∀ p ∈ b'.1, ∃ q ∈ t.map (·.2), p.1 = q.1) ∧ m = (t.length - b'.2).toNat)
          (fun x => ∃ o m, RpR (t.map (·.2)) o ∧ m = o.length ∧ x = (.exit 0, ⟨96, [(6, .sl 0 0 m)], [(0, ar13P o)]⟩)) (.normal, rp13A t o' t.length o.length (i + 1)) := fun o' hl h1' h2' =>
        ⟨(t.length - (i + 1)).toNat, by omega, (o', i + 1), by rw [hl], ⟨hm, by dsimp only; omega, by dsimp only; omega, h1', h2'⟩, rfl⟩
      have hit' : decide (i.toNat < (t.map tdD13).length) = true := decT (by rw [List.length_map]; exact hit)
      refine oblP ⟨by omega, by omega⟩ (oblI hit' (oblI (isTd13 _) (condI (fun _ => oblP ⟨by omega, by omega⟩ (next o rfl hn hx)) fun _ => ⟨o, o.length, y.2.2.1, y.2.1, rfl, rfl, ⟨rfl, by omega⟩, fun b => condI (fun _ => oblP ⟨by omega, by omega⟩ (next o rfl hn hx)) fun _ => ⟨o, o.length, y.2.1, rfl, rfl, ⟨rfl, by omega⟩, fun j hj => ?_⟩⟩)))
      have hy2 : y.2 ∈ t.map (·.2) := List.mem_map_of_mem hmem
      rcases idxI_cases (fun p : Pl => p.1 == y.2.1) o with ⟨k, p, h2, h3, h4⟩ | ⟨h2, h3⟩
      · have hj' : j = (k : Int) := by rw [hj]; exact h4
        have hk : k < o.length := (List.getElem?_eq_some_iff.1 h2).1
        have hjn : j.toNat < o.length := by omega
        have hpk : p.1 = y.2.1 := by simpa using h3
        rw [pl_nth hjn]
        have hj'' : decide (j.toNat < (o.map plD).length) = true := decT (by rw [List.length_map]; exact hjn)
        refine condT (decT (by omega)) (oblP ⟨by omega, by omega⟩ (oblI hj'' (oblI (isPl _) (oblP ⟨by omega, by omega⟩ (oblI hj'' (oblI (isPl _) (oblP ⟨by omega, by omega⟩ ?_)))))))
        have hset : ((o.set j.toNat (y.2.1, y.2.2.1, y.2.2.2.1, (o.getD j.toNat pl0).2.2.2)).map (·.1)) = o.map (·.1) := by
          rw [List.map_set]
          refine List.ext_getElem? fun z => ?_
          rw [List.getElem?_set]
          split
          · rename_i hz
            subst hz
            rw [if_pos (by rw [List.length_map]; exact hjn), List.getElem?_map, show j.toNat = k by omega, h2]
            simp [hpk]
          · rfl
        have := next (o.set j.toNat (y.2.1, y.2.2.1, y.2.2.2.1, (o.getD j.toNat pl0).2.2.2)) (by simp) (by rw [hset]; exact hn) (fun q hq => by
          rcases List.mem_or_eq_of_mem_set hq with h | h
          · exact hx q h
          · exact ⟨y.2, hy2, by rw [h]⟩)
        simp only [rp13A, ar13P, List.map_set] at this
        exact this
      · have hj' : j = -1 := by rw [hj]; exact h2
        have hnot : y.2.1 ∉ o.map (·.1) := fun hc => by
          obtain ⟨p, hp, he⟩ := List.mem_map.1 hc
          have := h3 p hp
          simp [he] at this
        refine condF (decF (by omega)) ?_
        simp only [List.length_map, List.length_cons, List.length_nil]
        generalize hc : ((o.length + (0 + 1) : Nat) : Int) = c
        refine oblI (by simp [roomOk]; omega) (oblP ⟨by omega, by omega⟩ ⟨t, o ++ [y.2], t.length, o.length + 1, i, c - 1, ?_, ⟨by simp, by omega, by omega⟩, fun o' ho => ?_⟩)
        · rw [List.take_of_length_le (by simp)]
          simp only [List.map_append, List.map_cons, List.map_nil]
          rfl
        · have hol := ho.length_eq
          simp at hol
          refine oblP ⟨by omega, by omega⟩ ⟨(t.length - (i + 1)).toNat, by omega, (o', i + 1), ?_, ⟨hm, by dsimp only; omega, by dsimp only; omega, ?_, fun p hp => ?_⟩, rfl⟩
          · simp only [hol]
          · refine (ho.map (·.1)).nodup_iff.2 ?_
            rw [List.map_append, List.nodup_append]
            exact ⟨hn, by simp, fun u hu v hv e => hnot (by simp at hv; rw [← hv, ← e]; exact hu)⟩
          · rcases List.mem_append.1 (ho.mem_iff.1 hp) with h | h
            · exact hx p h
            · rw [List.mem_singleton.1 h]
              exact ⟨y.2, hy2, rfl⟩)
    (by
      rintro s post ⟨t, n, rfl, ⟨rfl, hm⟩, hp⟩
      refine ⟨t, ([], 0), rfl, ⟨hm, by simp, by simp, by simp, by simp⟩, ?_⟩
      rintro x ⟨o, m, h1, h2, rfl⟩
      exact hp o m h1 h2)
theorem okReplay13 : FD X 41 hReplay13 := FD.mk (H := [(61, hSorted13)]) (hk := [(4, loopHook (kpF 41 4) gRp13A)]) (by kernel_rfl) (.cons okSorted13 .nil) (.cons loopRp13A .nil) (by
  intro ps R post hh
  obtain ⟨a, l, rfl, rfl, hm, hp⟩ := hh
  rw [← vcRp13]
  refine ⟨a, l, rfl, rfl, hm, fun t n hs hn => ⟨t, n, rfl, ⟨hn, ?_⟩, fun o m ho hm' => hp o m ?_ hm'⟩⟩
  · have := hs.1
    omega
  · obtain ⟨h1, h2, h3⟩ := ho
    rw [List.length_map] at h1
    refine ⟨Nat.le_trans h1 hs.1, h2, fun p hp => ?_⟩
    obtain ⟨q, hq, he⟩ := h3 p hp
    obtain ⟨x, hx, rfl⟩ := List.mem_map.1 hq
    exact ⟨x.2, hs.2 x hx, he⟩)
end
end Pi

/- Tree: small places: the laws: what the runs ask. -/
namespace Pi
open Go Go.Proofs
set_option maxRecDepth 100000
set_option maxHeartbeats 0
abbrev sm13A (nm : List UInt8) (n : Int) (o : List Pl) (v : List Id3) (m k : Nat) (i : Int) : S := ⟨71, [(1, idsB nm), (2, .d (.int .u16 n)), (10, .sl 0 0 m), (11, .sl 1 0 k), (12, iD i)], [(0, ar13P o), (1, ar13I v)]⟩
/-- Small places: so much of them as is asked here: of unlike right ids, with right names. -/
def SmR (o : List Pl) (v : List Id3) : Prop := o.length ≤ 40 ∧ v.length ≤ o.length ∧ (o.map (·.1)).Nodup ∧ ∀ p ∈ o, (∃ x : Int, 1 ≤ x ∧ x ≤ 8 ∧ p.1 = (x, 1, 0)) ∧ ∃ c : UInt8, c ∈ [97, 98, 99] ∧ p.2.2.1 = [c]
def gSm13 : S → K (PX × S) := fun s post => ∃ nm n o m, s = sm13A nm n o [] m 0 0 ∧ (m = o.length ∧ o.length ≤ 40 ∧ (o.map (·.1)).Nodup ∧ ∀ p ∈ o, ∃ x : Int, 1 ≤ x ∧ x ≤ 8 ∧ p.1 = (x, 1, 0)) ∧ ∀ o' v k, SmR o' v → o'.length = m → k = v.length → post (.exit 0, ⟨71, [(10, .sl 0 0 m), (11, .sl 1 0 k)], [(0, ar13P o'), (1, ar13I v)]⟩)
theorem vcSm13 (l : List Stp13) (nm : List UInt8) (n : Int) (post : P × List (Nat × En) → Prop) : (∃ (l_1 : List Stp13), [P.d (D.sl 3 (List.map spE13 l))] = [P.d (D.sl 3 (List.map spE13 l_1))] ∧ EqR [] [] ∧ ∀ (a : List Id3) (o : List Pl) (n_1 m : Nat), TdR a o → n_1 = List.length a → m = List.length o → ∃ (a_4 : List Id3), ∃ (l : List Pl), [P.d (D.sl 3 (List.take n_1 (List.map ixD a))), P.d (D.sl 8 (List.take m (List.map plD o)))] = [P.d (D.sl 3 (List.map ixD a_4)), P.d (D.sl 8 (List.map plD l))] ∧ EqR [] [] ∧ List.length l ≤ 1000 ∧ ∀ (o : List Pl) (m : Nat), RpR l o → m = List.length o → ∃ (nm_1 : List UInt8), ∃ (n_2 : Int), ∃ (o_1 : List Pl), ∃ (m_1 : Nat), S.mk 71 [(1, P.d (D.sl 1 (List.map bD nm))), (2, P.d (D.int IntKind.u16 n)), (10, P.sl 0 0 m), (11, P.sl 1 0 0), (12, P.d (D.int IntKind.i64 (0 : Int)))] [(0, En.mk 0 none (Obj.arr 47 false (List.map plD o))), (1, En.mk 0 none (Obj.arr 41 false []))] = S.mk 71 [(1, P.d (D.sl 1 (List.map bD nm_1))), (2, P.d (D.int IntKind.u16 n_2)), (10, P.sl 0 0 m_1), (11, P.sl 1 0 0), (12, P.d (D.int IntKind.i64 (0 : Int)))] [(0, En.mk 0 none (Obj.arr 47 false (List.map plD o_1))), (1, En.mk 0 none (Obj.arr 41 false []))] ∧ (m_1 = List.length o_1 ∧ List.length o_1 ≤ 40 ∧ List.Nodup (List.map (fun (x : Pl) => Prod.fst x) o_1) ∧ ∀ (p : Pl), p ∈ o_1 → ∃ (x : Int), (1 : Int) ≤ x ∧ x ≤ (8 : Int) ∧ p.1 = (x, (1 : Int), (0 : Int))) ∧ ∀ (o' : List Pl) (v : List Id3) (k : Nat), SmR o' v → List.length o' = m_1 → k = List.length v → post (P.tup [P.sl 0 0 m_1, P.sl 1 0 k], [(0, En.mk 0 none (Obj.arr 47 false (List.map plD o'))), (1, En.mk 0 none (Obj.arr 41 false (List.map ixD v)))])) = (bodyF [(40, hTold13), (41, hReplay13)] [(5, loopHook (kpF 18 5) gSm13)] 18 [stps13 l, idsB nm, .d (.int .u16 n)] []) post := by kernel_rfl
def hSmall : KF1 := fun ps R post => ∃ l nm n, ps = [stps13 l, idsB nm, .d (.int .u16 n)] ∧ R = [] ∧ ∀ o v m k, SmR o v → m = o.length → k = v.length → post (.tup [.sl 0 0 m, .sl 1 0 k], [(0, ar13P o), (1, ar13I v)])
def vcSm13A_0  : Int := (-9223372036854775808 : Int)
def vcSm13A_1 (nm : List UInt8) (i : Int) : Int := D.iVal (D.nth (List.map bD nm) (Int.toNat i))
def vcSm13A_2 (nm : List UInt8) (i : Int) : Int := Int.tmod (vcSm13A_1 nm i) (3 : Int)
def vcSm13A_3 (nm : List UInt8) (i : Int) : Int := vcSm13A_2 nm i + (1 : Int)
def vcSm13A_4 (m : Nat) (i : Int) : Bool := decide ((0 : Int) ≤ i ∧ i < (↑m : Int))
def vcSm13A_5 (o : List Pl) (i : Int) : Bool := decide (Int.toNat i < List.length (List.map plD o))
def vcSm13A_6 (o : List Pl) (i : Int) : D := D.nth (List.map plD o) (Int.toNat i)
def vcSm13A_7 (i : Int) : Bool := decide ((0 : Int) ≤ i)
def vcSm13A_8 (n : Int) (i : Int) : Bool := IntKind.wrap IntKind.u16 (↑(BitVec.toNat (BitVec.ofInt 16 (Int.fdiv n ((2 : Int) ^ min (Int.toNat i) 16)) &&& BitVec.ofInt 16 (1 : Int))) : Int) == (1 : Int)
def vcSm13A_9 (o : List Pl) (i : Int) : D := D.int IntKind.i64 (D.iVal (D.cAt (vcSm13A_6 o i) 0))
def vcSm13A_10 (o : List Pl) (i : Int) : D := D.int IntKind.i64 (D.iVal (D.cAt (vcSm13A_6 o i) 1))
def vcSm13A_11 (o : List Pl) (i : Int) : D := D.int IntKind.i64 (D.iVal (D.cAt (vcSm13A_6 o i) 2))
def vcSm13A_12 (o : List Pl) (i : Int) : D := D.int IntKind.i64 (D.iVal (D.cAt (vcSm13A_6 o i) 3))
def vcSm13A_13 (o : List Pl) (i : Int) : D := D.int IntKind.i64 (D.iVal (D.cAt (vcSm13A_6 o i) 4))
def vcSm13A_14 (o : List Pl) (i : Int) : D := D.int IntKind.i64 (D.iVal (D.cAt (vcSm13A_6 o i) 5))
def vcSm13A_15 (o : List Pl) (i : Int) : List D := [D.bool (D.bVal (D.cAt (vcSm13A_6 o i) 7))]
def vcSm13A_16 (o : List Pl) (i : Int) : D := D.agg (vcSm13A_9 o i :: vcSm13A_10 o i :: vcSm13A_11 o i :: vcSm13A_12 o i :: vcSm13A_13 o i :: vcSm13A_14 o i :: D.str (D.sVal (D.cAt (vcSm13A_6 o i) 6)) :: vcSm13A_15 o i)
def vcSm13A_17 (nm : List UInt8) (o : List Pl) (i : Int) : List D := List.set (List.map plD o) (Int.toNat i) (D.withCells (vcSm13A_16 o i) (vcSm13A_9 o i :: vcSm13A_10 o i :: vcSm13A_11 o i :: vcSm13A_12 o i :: vcSm13A_13 o i :: vcSm13A_14 o i :: D.str (List.drop (Int.toNat (vcSm13A_2 nm i)) (List.take (Int.toNat (vcSm13A_3 nm i)) [(97 : UInt8), (98 : UInt8), (99 : UInt8)])) :: vcSm13A_15 o i))
def vcSm13A_18 (nm : List UInt8) (o : List Pl) (i : Int) : Bool := decide (Int.toNat i < List.length (vcSm13A_17 nm o i))
def vcSm13A_19 (nm : List UInt8) (o : List Pl) (i : Int) : D := D.nth (vcSm13A_17 nm o i) (Int.toNat i)
noncomputable def vcSm13A_20 (nm : List UInt8) (o : List Pl) (i : Int) : Bool := isD PR (47 : TypeId) (vcSm13A_19 nm o i)
def vcSm13A_21 (nm : List UInt8) (o : List Pl) (i : Int) : D := D.int IntKind.i64 (D.iVal (D.cAt (vcSm13A_19 nm o i) 0))
def vcSm13A_22 (nm : List UInt8) (o : List Pl) (i : Int) : D := D.int IntKind.i64 (D.iVal (D.cAt (vcSm13A_19 nm o i) 1))
def vcSm13A_23 (nm : List UInt8) (o : List Pl) (i : Int) : D := D.int IntKind.i64 (D.iVal (D.cAt (vcSm13A_19 nm o i) 2))
def vcSm13A_24 (nm : List UInt8) (o : List Pl) (i : Int) : List D := [D.agg [vcSm13A_21 nm o i, vcSm13A_22 nm o i, vcSm13A_23 nm o i]]
def vcSm13A_25 (nm : List UInt8) (o : List Pl) (k : Nat) (i : Int) : Nat := k + List.length (vcSm13A_24 nm o i)
def vcSm13A_26 (i : Int) : Int := i + (8 : Int)
def vcSm13A_27 (i : Int) : Bool := decide (vcSm13A_0 ≤ vcSm13A_26 i ∧ vcSm13A_26 i ≤ (9223372036854775807 : Int))
def vcSm13A_28 (i : Int) : Bool := decide ((0 : Int) ≤ vcSm13A_26 i)
def vcSm13A_29 (n : Int) (i : Int) : Bool := IntKind.wrap IntKind.u16 (↑(BitVec.toNat (BitVec.ofInt 16 (Int.fdiv n ((2 : Int) ^ min (Int.toNat (vcSm13A_26 i)) 16)) &&& BitVec.ofInt 16 (1 : Int))) : Int) == (1 : Int)
def vcSm13A_30 (i : Int) : Int := i + (1 : Int)
def vcSm13A_31 (i : Int) : Bool := decide (vcSm13A_0 ≤ vcSm13A_30 i ∧ vcSm13A_30 i ≤ (9223372036854775807 : Int))
def vcSm13A_32 (nm : List UInt8) : Nat × P := (1, P.d (D.sl 1 (List.map bD nm)))
def vcSm13A_33 (n : Int) : Nat × P := (2, P.d (D.int IntKind.u16 n))
def vcSm13A_34 (m : Nat) : Nat × P := (10, P.sl 0 0 m)
def vcSm13A_35 (i : Int) : List (Nat × P) := [(12, P.d (D.int IntKind.i64 (vcSm13A_30 i)))]
def vcSm13A_36 (nm : List UInt8) (n : Int) (o : List Pl) (m : Nat) (k : Nat) (i : Int) : List (Nat × P) := vcSm13A_32 nm :: vcSm13A_33 n :: vcSm13A_34 m :: (11, P.sl 1 0 (vcSm13A_25 nm o k i)) :: vcSm13A_35 i
def vcSm13A_37 (nm : List UInt8) (o : List Pl) (i : Int) : D := D.int IntKind.i64 (D.iVal (D.cAt (vcSm13A_19 nm o i) 3))
def vcSm13A_38 (nm : List UInt8) (o : List Pl) (i : Int) : D := D.int IntKind.i64 (D.iVal (D.cAt (vcSm13A_19 nm o i) 4))
def vcSm13A_39 (nm : List UInt8) (o : List Pl) (i : Int) : D := D.int IntKind.i64 (D.iVal (D.cAt (vcSm13A_19 nm o i) 5))
def vcSm13A_40 (nm : List UInt8) (o : List Pl) (i : Int) : D := D.str (D.sVal (D.cAt (vcSm13A_19 nm o i) 6))
def vcSm13A_41 (nm : List UInt8) (o : List Pl) (i : Int) : Nat × En := (0, En.mk 0 none (Obj.arr (47 : TypeId) false (List.set (vcSm13A_17 nm o i) (Int.toNat i) (D.withCells (D.agg [vcSm13A_21 nm o i, vcSm13A_22 nm o i, vcSm13A_23 nm o i, vcSm13A_37 nm o i, vcSm13A_38 nm o i, vcSm13A_39 nm o i, vcSm13A_40 nm o i, D.bool (D.bVal (D.cAt (vcSm13A_19 nm o i) 7))]) [vcSm13A_21 nm o i, vcSm13A_22 nm o i, vcSm13A_23 nm o i, vcSm13A_37 nm o i, vcSm13A_38 nm o i, vcSm13A_39 nm o i, vcSm13A_40 nm o i, D.bool true]))))
def vcSm13A_42 (nm : List UInt8) (o : List Pl) (v : List Id3) (k : Nat) (i : Int) : List (Nat × En) := [(1, En.mk 0 none (Obj.arr (41 : TypeId) false (List.take k (List.map ixD v) ++ vcSm13A_24 nm o i)))]
def vcSm13A_43 (nm : List UInt8) (o : List Pl) (i : Int) : Nat × En := (0, En.mk 0 none (Obj.arr (47 : TypeId) false (vcSm13A_17 nm o i)))
def vcSm13A_44 (k : Nat) : Nat × P := (11, P.sl 1 0 k)
def vcSm13A_45 (nm : List UInt8) (n : Int) (m : Nat) (k : Nat) (i : Int) : List (Nat × P) := vcSm13A_32 nm :: vcSm13A_33 n :: vcSm13A_34 m :: vcSm13A_44 k :: vcSm13A_35 i
def vcSm13A_46 (v : List Id3) : List (Nat × En) := [(1, En.mk 0 none (Obj.arr (41 : TypeId) false (List.map ixD v)))]
def vcSm13A_47 (o : List Pl) (i : Int) : List D := List.set (List.map plD o) (Int.toNat i) (D.withCells (vcSm13A_16 o i) (vcSm13A_9 o i :: vcSm13A_10 o i :: vcSm13A_11 o i :: vcSm13A_12 o i :: vcSm13A_13 o i :: vcSm13A_14 o i :: D.str [(97 : UInt8)] :: vcSm13A_15 o i))
def vcSm13A_48 (o : List Pl) (i : Int) : Bool := decide (Int.toNat i < List.length (vcSm13A_47 o i))
noncomputable def vcSm13A_49 (o : List Pl) (i : Int) : Bool := isD PR (47 : TypeId) (D.nth (vcSm13A_47 o i) (Int.toNat i))
def vcSm13A_50 (o : List Pl) (i : Int) : D := D.int IntKind.i64 (D.iVal (D.cAt (D.nth (vcSm13A_47 o i) (Int.toNat i)) 0))
def vcSm13A_51 (o : List Pl) (i : Int) : D := D.int IntKind.i64 (D.iVal (D.cAt (D.nth (vcSm13A_47 o i) (Int.toNat i)) 1))
def vcSm13A_52 (o : List Pl) (i : Int) : D := D.int IntKind.i64 (D.iVal (D.cAt (D.nth (vcSm13A_47 o i) (Int.toNat i)) 2))
def vcSm13A_53 (o : List Pl) (i : Int) : List D := [D.agg [vcSm13A_50 o i, vcSm13A_51 o i, vcSm13A_52 o i]]
def vcSm13A_54 (o : List Pl) (k : Nat) (i : Int) : Nat := k + List.length (vcSm13A_53 o i)
def vcSm13A_55 (nm : List UInt8) (n : Int) (o : List Pl) (m : Nat) (k : Nat) (i : Int) : List (Nat × P) := vcSm13A_32 nm :: vcSm13A_33 n :: vcSm13A_34 m :: (11, P.sl 1 0 (vcSm13A_54 o k i)) :: vcSm13A_35 i
def vcSm13A_56 (o : List Pl) (i : Int) : D := D.int IntKind.i64 (D.iVal (D.cAt (D.nth (vcSm13A_47 o i) (Int.toNat i)) 3))
def vcSm13A_57 (o : List Pl) (i : Int) : D := D.int IntKind.i64 (D.iVal (D.cAt (D.nth (vcSm13A_47 o i) (Int.toNat i)) 4))
def vcSm13A_58 (o : List Pl) (i : Int) : D := D.int IntKind.i64 (D.iVal (D.cAt (D.nth (vcSm13A_47 o i) (Int.toNat i)) 5))
def vcSm13A_59 (o : List Pl) (i : Int) : D := D.str (D.sVal (D.cAt (D.nth (vcSm13A_47 o i) (Int.toNat i)) 6))
def vcSm13A_60 (o : List Pl) (i : Int) : Nat × En := (0, En.mk 0 none (Obj.arr (47 : TypeId) false (List.set (vcSm13A_47 o i) (Int.toNat i) (D.withCells (D.agg [vcSm13A_50 o i, vcSm13A_51 o i, vcSm13A_52 o i, vcSm13A_56 o i, vcSm13A_57 o i, vcSm13A_58 o i, vcSm13A_59 o i, D.bool (D.bVal (D.cAt (D.nth (vcSm13A_47 o i) (Int.toNat i)) 7))]) [vcSm13A_50 o i, vcSm13A_51 o i, vcSm13A_52 o i, vcSm13A_56 o i, vcSm13A_57 o i, vcSm13A_58 o i, vcSm13A_59 o i, D.bool true]))))
def vcSm13A_61 (o : List Pl) (v : List Id3) (k : Nat) (i : Int) : List (Nat × En) := [(1, En.mk 0 none (Obj.arr (41 : TypeId) false (List.take k (List.map ixD v) ++ vcSm13A_53 o i)))]
def vcSm13A_62 (o : List Pl) (i : Int) : Nat × En := (0, En.mk 0 none (Obj.arr (47 : TypeId) false (vcSm13A_47 o i)))
theorem vcSm13A (nm : List UInt8) (n : Int) (o : List Pl) (v : List Id3) (m k : Nat) (i : Int) (post : PX × S → Prop) : (bif decide (i < (↑m : Int)) then bif decide (i < (↑(List.length (List.map bD nm)) : Int)) then bif decide ((0 : Int) ≤ i ∧ i < (↑(List.length (List.map bD nm)) : Int)) then bif isD PR (5 : TypeId) (D.nth (List.map bD nm) (Int.toNat i)) then bif decide (vcSm13A_0 ≤ vcSm13A_1 nm i ∧ vcSm13A_1 nm i ≤ (9223372036854775807 : Int)) then bif decide (vcSm13A_0 ≤ vcSm13A_3 nm i ∧ vcSm13A_3 nm i ≤ (9223372036854775807 : Int)) then bif decide ((0 : Int) ≤ vcSm13A_3 nm i ∧ vcSm13A_3 nm i ≤ (3 : Int)) then bif decide ((0 : Int) ≤ vcSm13A_2 nm i ∧ vcSm13A_2 nm i ≤ (↑(Int.toNat (vcSm13A_3 nm i)) : Int)) then bif vcSm13A_4 m i then bif vcSm13A_5 o i then bif isD PR (47 : TypeId) (vcSm13A_6 o i) then bif vcSm13A_7 i then bif vcSm13A_8 n i then bif vcSm13A_4 m i then bif vcSm13A_18 nm o i then bif vcSm13A_20 nm o i then bif Nat.ble k (List.length (List.map ixD v)) && roomOk (vcSm13A_25 nm o k i) 24 then bif vcSm13A_27 i then bif vcSm13A_28 i then bif vcSm13A_29 n i then bif vcSm13A_4 m i then bif vcSm13A_18 nm o i then bif vcSm13A_20 nm o i then bif vcSm13A_31 i then post (PX.normal, S.mk 71 (vcSm13A_36 nm n o m k i) (vcSm13A_41 nm o i :: vcSm13A_42 nm o v k i)) else False else False else False else False else bif vcSm13A_31 i then post (PX.normal, S.mk 71 (vcSm13A_36 nm n o m k i) (vcSm13A_43 nm o i :: vcSm13A_42 nm o v k i)) else False else False else False else False else False else False else False else bif vcSm13A_27 i then bif vcSm13A_28 i then bif vcSm13A_29 n i then bif vcSm13A_4 m i then bif vcSm13A_18 nm o i then bif vcSm13A_20 nm o i then bif vcSm13A_31 i then post (PX.normal, S.mk 71 (vcSm13A_45 nm n m k i) (vcSm13A_41 nm o i :: vcSm13A_46 v)) else False else False else False else False else bif vcSm13A_31 i then post (PX.normal, S.mk 71 (vcSm13A_45 nm n m k i) (vcSm13A_43 nm o i :: vcSm13A_46 v)) else False else False else False else False else False else False else False else False else False else False else False else False else False else bif vcSm13A_4 m i then bif vcSm13A_5 o i then bif isD PR (47 : TypeId) (vcSm13A_6 o i) then bif vcSm13A_7 i then bif vcSm13A_8 n i then bif vcSm13A_4 m i then bif vcSm13A_48 o i then bif vcSm13A_49 o i then bif Nat.ble k (List.length (List.map ixD v)) && roomOk (vcSm13A_54 o k i) 24 then bif vcSm13A_27 i then bif vcSm13A_28 i then bif vcSm13A_29 n i then bif vcSm13A_4 m i then bif vcSm13A_48 o i then bif vcSm13A_49 o i then bif vcSm13A_31 i then post (PX.normal, S.mk 71 (vcSm13A_55 nm n o m k i) (vcSm13A_60 o i :: vcSm13A_61 o v k i)) else False else False else False else False else bif vcSm13A_31 i then post (PX.normal, S.mk 71 (vcSm13A_55 nm n o m k i) (vcSm13A_62 o i :: vcSm13A_61 o v k i)) else False else False else False else False else False else False else False else bif vcSm13A_27 i then bif vcSm13A_28 i then bif vcSm13A_29 n i then bif vcSm13A_4 m i then bif vcSm13A_48 o i then bif vcSm13A_49 o i then bif vcSm13A_31 i then post (PX.normal, S.mk 71 (vcSm13A_45 nm n m k i) (vcSm13A_60 o i :: vcSm13A_46 v)) else False else False else False else False else bif vcSm13A_31 i then post (PX.normal, S.mk 71 (vcSm13A_45 nm n m k i) (vcSm13A_62 o i :: vcSm13A_46 v)) else False else False else False else False else False else False else False else post (PX.exit 0, S.mk 71 [vcSm13A_34 m, vcSm13A_44 k] ((0, En.mk 0 none (Obj.arr (47 : TypeId) false (List.map plD o))) :: vcSm13A_46 v))) = (roundL [] [] 18 5 (sm13A nm n o v m k i)) post := by kernel_rfl
end Pi

/- Tree: small places: the laws. -/
namespace Pi
open Go Go.Proofs
set_option maxRecDepth 100000
theorem wc_name (p : Pl) (s : List UInt8) : D.withCells (D.agg [D.int IntKind.i64 (D.iVal (D.cAt (plD p) 0)), D.int IntKind.i64 (D.iVal (D.cAt (plD p) 1)), D.int IntKind.i64 (D.iVal (D.cAt (plD p) 2)), D.int IntKind.i64 (D.iVal (D.cAt (plD p) 3)), D.int IntKind.i64 (D.iVal (D.cAt (plD p) 4)), D.int IntKind.i64 (D.iVal (D.cAt (plD p) 5)), D.str (D.sVal (D.cAt (plD p) 6)), D.bool (D.bVal (D.cAt (plD p) 7))]) [D.int IntKind.i64 (D.iVal (D.cAt (plD p) 0)), D.int IntKind.i64 (D.iVal (D.cAt (plD p) 1)), D.int IntKind.i64 (D.iVal (D.cAt (plD p) 2)), D.int IntKind.i64 (D.iVal (D.cAt (plD p) 3)), D.int IntKind.i64 (D.iVal (D.cAt (plD p) 4)), D.int IntKind.i64 (D.iVal (D.cAt (plD p) 5)), D.str s, D.bool (D.bVal (D.cAt (plD p) 7))] = plD (p.1, p.2.1, s, p.2.2.2) := rfl
theorem wc_dir (p : Pl) : D.withCells (D.agg [D.int IntKind.i64 (D.iVal (D.cAt (plD p) 0)), D.int IntKind.i64 (D.iVal (D.cAt (plD p) 1)), D.int IntKind.i64 (D.iVal (D.cAt (plD p) 2)), D.int IntKind.i64 (D.iVal (D.cAt (plD p) 3)), D.int IntKind.i64 (D.iVal (D.cAt (plD p) 4)), D.int IntKind.i64 (D.iVal (D.cAt (plD p) 5)), D.str (D.sVal (D.cAt (plD p) 6)), D.bool (D.bVal (D.cAt (plD p) 7))]) [D.int IntKind.i64 (D.iVal (D.cAt (plD p) 0)), D.int IntKind.i64 (D.iVal (D.cAt (plD p) 1)), D.int IntKind.i64 (D.iVal (D.cAt (plD p) 2)), D.int IntKind.i64 (D.iVal (D.cAt (plD p) 3)), D.int IntKind.i64 (D.iVal (D.cAt (plD p) 4)), D.int IntKind.i64 (D.iVal (D.cAt (plD p) 5)), D.str (D.sVal (D.cAt (plD p) 6)), D.bool true] = plD (p.1, p.2.1, p.2.2.1, true) := rfl
section
variable {X : XF} (hX : XT X)
include hX
end
section
variable {X : XF}
/-- Small, by its loop. -/
theorem okSmall (hL : LD X 18 5 (loopHook (kpF 18 5) gSm13)) : FD X 18 hSmall := FD.mk (H := [(40, hTold13), (41, hReplay13)]) (hk := [(5, loopHook (kpF 18 5) gSm13)]) (by kernel_rfl) (.cons okTold13 (.cons okReplay13 .nil)) (.cons hL .nil) (by
  intro ps R post hh
  obtain ⟨l, nm, n, rfl, rfl, hp⟩ := hh
  rw [← vcSm13]
  refine ⟨l, rfl, rfl, fun a o n1 m ht hn hm => ?_⟩
  subst hn
  subst hm
  obtain ⟨h1, h2, h3⟩ := ht
  have t1 : List.take o.length (o.map plD) = o.map plD := List.take_of_length_le (by simp)
  have t2 : List.take a.length (a.map ixD) = a.map ixD := List.take_of_length_le (by simp)
  rw [t1, t2]
  refine ⟨a, o, rfl, rfl, by omega, fun q m hr hm => ?_⟩
  obtain ⟨r1, r2, r3⟩ := hr
  refine ⟨nm, n, q, m, rfl, ⟨hm, by omega, r2, fun p hp' => ?_⟩, fun o' v k hs hl hk => hp o' v m k hs hl.symm hk⟩
  obtain ⟨z, hz, e⟩ := r3 p hp'
  obtain ⟨x, hx⟩ := h3 z hz
  exact ⟨x, by rw [e]; exact hx⟩)
end
end Pi

/- Tree: small places: Small's loop. -/
namespace Pi
open Go Go.Proofs
set_option maxRecDepth 100000
theorem abc_name {c : Int} (h0 : 0 ≤ c) (h3 : c < 3) : ∃ b : UInt8, b ∈ [97, 98, 99] ∧ List.drop c.toNat (List.take (c + 1).toNat [(97 : UInt8), (98 : UInt8), (99 : UInt8)]) = [b] := by
  have : c = 0 ∨ c = 1 ∨ c = 2 := by omega
  rcases this with rfl | rfl | rfl
  · exact ⟨97, by simp, rfl⟩
  · exact ⟨98, by simp, rfl⟩
  · exact ⟨99, by simp, rfl⟩
def smI (m : Nat) (o : List Pl) (v : List Id3) (i : Int) : Prop := o.length = m ∧ m ≤ 40 ∧ (v.length : Int) ≤ i ∧ i ≤ m ∧ (o.map (·.1)).Nodup ∧ (∀ p ∈ o, ∃ x : Int, 1 ≤ x ∧ x ≤ 8 ∧ p.1 = (x, 1, 0)) ∧ ∀ j : Nat, (j : Int) < i → ∃ c : UInt8, c ∈ [97, 98, 99] ∧ (o.getD j pl0).2.2.1 = [c]
theorem smI_step {m : Nat} {o : List Pl} {v v' : List Id3} {i : Int} (h : smI m o v i) (hi : i < m) {q : Pl} (h1 : q.1 = (o.getD i.toNat pl0).1) (hq : ∃ c : UInt8, c ∈ [97, 98, 99] ∧ q.2.2.1 = [c]) (hv : v'.length ≤ v.length + 1) : smI m (o.set i.toNat q) v' (i + 1) := by
  obtain ⟨a1, a2, a3, a4, a5, a6, a7⟩ := h
  have hin : i.toNat < o.length := by omega
  have hset : ((o.set i.toNat q).map (·.1)) = o.map (·.1) := by
    rw [List.map_set, h1]
    refine List.ext_getElem? fun z => ?_
    rw [List.getElem?_set]
    split
    · rename_i hz
      subst hz
      rw [if_pos (by rw [List.length_map]; exact hin), List.getElem?_map, getD_some hin pl0]
      rfl
    · rfl
  refine ⟨by simp [a1], a2, by omega, by omega, by rw [hset]; exact a5, fun p hp => ?_, fun j hj => ?_⟩
  · rcases List.mem_or_eq_of_mem_set hp with h | h
    · exact a6 p h
    · obtain ⟨x, hx⟩ := a6 _ (List.mem_of_getElem? (getD_some hin pl0))
      exact ⟨x, by rw [h, h1]; exact hx⟩
  · by_cases e : j = i.toNat
    · subst e
      have : (o.set i.toNat q).getD i.toNat pl0 = q := by simp [List.getD_eq_getElem?_getD, hin]
      rw [this]
      exact hq
    · have : (o.set i.toNat q).getD j pl0 = o.getD j pl0 := by
        simp only [List.getD_eq_getElem?_getD]
        rw [List.getElem?_set_ne (by omega)]
      rw [this]
      exact a7 j (by omega)
section
variable {X : XF}
set_option maxHeartbeats 0 in
theorem loopSm13 : LD X 18 5 (loopHook (kpF 18 5) gSm13) :=
  LD.par (H := []) (hk := []) (by kernel_rfl) (by kernel_rfl) .nil .nil
    (A := List UInt8 × Int × Nat) (B := List Pl × List Id3 × Int) (fun a b => sm13A a.1 a.2.1 b.1 b.2.1 a.2.2 b.2.1.length b.2.2)
    (fun a b => smI a.2.2 b.1 b.2.1 b.2.2 ∧ 0 ≤ b.2.2) (fun a b => (a.2.2 - b.2.2).toNat)
    (fun a x => ∃ o' v k, SmR o' v ∧ o'.length = a.2.2 ∧ k = v.length ∧ x = (.exit 0, ⟨71, [(10, .sl 0 0 a.2.2), (11, .sl 1 0 k)], [(0, ar13P o'), (1, ar13I v)]⟩))
    (by
      rintro ⟨nm, n, m⟩ ⟨o, v, i⟩ ⟨hI, h0⟩
      dsimp only at *
      obtain ⟨a1, a2, a3, a4, a5, a6, a7⟩ := id hI
      (rw [← vcSm13A]; delta vcSm13A_0 vcSm13A_1 vcSm13A_2 vcSm13A_3 vcSm13A_4 vcSm13A_5 vcSm13A_6 vcSm13A_7 vcSm13A_8 vcSm13A_9 vcSm13A_10 vcSm13A_11 vcSm13A_12 vcSm13A_13 vcSm13A_14 vcSm13A_15 vcSm13A_16 vcSm13A_17 vcSm13A_18 vcSm13A_19 vcSm13A_20 vcSm13A_21 vcSm13A_22 vcSm13A_23 vcSm13A_24 vcSm13A_25 vcSm13A_26 vcSm13A_27 vcSm13A_28 vcSm13A_29 vcSm13A_30 vcSm13A_31 vcSm13A_32 vcSm13A_33 vcSm13A_34 vcSm13A_35 vcSm13A_36 vcSm13A_37 vcSm13A_38 vcSm13A_39 vcSm13A_40 vcSm13A_41 vcSm13A_42 vcSm13A_43 vcSm13A_44 vcSm13A_45 vcSm13A_46 vcSm13A_47 vcSm13A_48 vcSm13A_49 vcSm13A_50 vcSm13A_51 vcSm13A_52 vcSm13A_53 vcSm13A_54 vcSm13A_55 vcSm13A_56 vcSm13A_57 vcSm13A_58 vcSm13A_59 vcSm13A_60 vcSm13A_61 vcSm13A_62)
      refine condP (fun h1 => ?_) fun _ => ⟨o, v, _, ⟨by omega, by omega, a5, fun p hp => ⟨a6 p hp, ?_⟩⟩, a1, rfl, rfl⟩
      rotate_left
      · obtain ⟨j, hj, e⟩ := List.getElem_of_mem hp
        have := a7 j (by omega)
        rw [show o.getD j pl0 = p by rw [List.getD_eq_getElem?_getD, List.getElem?_eq_getElem hj, e]; rfl] at this
        exact this
      have hin : i.toNat < o.length := by omega
      have fin : ∀ (q : Pl) (v' : List Id3), q.1 = (o.getD i.toNat pl0).1 → (∃ c : UInt8, c ∈ [97, 98, 99] ∧ q.2.2.1 = [c]) → v'.length ≤ v.length + 1 → roundPost (m - i).toNat (fun w s => ∃ b' : List Pl × List Id3 × Int, s = sm13A nm n b'.1 b'.2.1 m b'.2.1.length b'.2.2 ∧ (smI m b'.1 b'.2.1 b'.2.2 ∧ 0 ≤ b'.2.2) ∧ w = (m - b'.2.2).toNat)
          (fun x => ∃ o' v k, SmR o' v ∧ o'.length = m ∧ k = v.length ∧ x = (.exit 0, ⟨71, [(10, .sl 0 0 m), (11, .sl 1 0 k)], [(0, ar13P o'), (1, ar13I v)]⟩)) (.normal, sm13A nm n (o.set i.toNat q) v' m v'.length (i + 1)) := fun q v' e1 e2 e3 =>
        ⟨(m - (i + 1)).toNat, by omega, (o.set i.toNat q, v', i + 1), rfl, ⟨smI_step hI h1 e1 e2 e3, by dsimp only; omega⟩, rfl⟩
      rw [pl_nth hin]
      generalize o.getD i.toNat pl0 = p at fin
      have nthS : ∀ q, D.nth (List.map plD (o.set i.toNat q)) i.toNat = plD q := fun q => by
        rw [pl_nth (by rw [List.length_set]; exact hin)]
        simp [List.getD_eq_getElem?_getD, hin]
      simp only [wc_name, ← List.map_set, nthS, wc_dir, List.set_set, List.length_map, List.length_set]
      have tk : List.take v.length (v.map ixD) = v.map ixD := List.take_of_length_le (by simp)
      have hvl : v.length ≤ 40 := by omega
      have ap : ∀ x : Id3, (v.map ixD ++ [ixD x]) = (v ++ [x]).map ixD := fun x => by simp
      have hlt : i.toNat < o.length := hin
      simp only [tk, List.length_cons, List.length_nil]
      have room : (Nat.ble v.length v.length && roomOk (v.length + (0 + 1)) 24) = true := by
        simp [roomOk]
        omega
      simp only [room, cond_true]
      generalize (IntKind.wrap IntKind.u16 (BitVec.toNat (BitVec.ofInt 16 (Int.fdiv n ((2 : Int) ^ min (Int.toNat i) 16)) &&& BitVec.ofInt 16 (1 : Int)) : Int) == (1 : Int)) = g1
      generalize (IntKind.wrap IntKind.u16 _ == (1 : Int)) = g2
      have finA := fun (q : Pl) (e1 : q.1 = p.1) (e2 : ∃ c : UInt8, c ∈ [97, 98, 99] ∧ q.2.2.1 = [c]) => fin q (v ++ [p.1]) e1 e2 (by simp)
      simp only [List.length_append, List.length_cons, List.length_nil] at finA
      simp only [cF]
      simp only [cB]
      simp only [cP]
      simp only [cI]
      refine ⟨fun h2 => ?_, fun h2 => ?_⟩
      · have hk : i.toNat < nm.length := by omega
        rw [bD_nth' hk]
        generalize nm.getD i.toNat 0 = b
        have hb : b.toNat < 256 := b.toNat_lt
        have e : D.iVal (bD b) = (b.toNat : Int) := rfl
        rw [e]
        have m1 := tmodB (b := b) (n := 3) (by decide)
        generalize (Int.tmod (b.toNat : Int) 3) = c at m1 ⊢
        obtain ⟨b', hb', hs⟩ := abc_name m1.1 m1.2
        rw [hs]
        have f1 := fun d => fin (p.1, p.2.1, [b'], d) v rfl ⟨b', hb', rfl⟩ (by omega)
        have f2 := fun d => finA (p.1, p.2.1, [b'], d) rfl ⟨b', hb', rfl⟩
        simp only [sm13A, ar13I, ar13P, List.map_append, List.map_cons, List.map_nil] at f1 f2
        repeat' (first | (refine And.intro ?_ ?_) | (intro _))
        all_goals (first
          | omega
          | exact isPl _
          | exact isB5 _
          | exact f1 _
          | exact f2 _)
      · have f1 := fun d => fin (p.1, p.2.1, [97], d) v rfl ⟨97, by simp, rfl⟩ (by omega)
        have f2 := fun d => finA (p.1, p.2.1, [97], d) rfl ⟨97, by simp, rfl⟩
        simp only [sm13A, ar13I, ar13P, List.map_append, List.map_cons, List.map_nil] at f1 f2
        repeat' (first | (refine And.intro ?_ ?_) | (intro _))
        all_goals (first
          | omega
          | exact isPl _
          | exact isB5 _
          | exact f1 _
          | exact f2 _))
    (by
      rintro s post ⟨nm, n, o, m, rfl, ⟨rfl, hm, hn, hx⟩, hp⟩
      refine ⟨(nm, n, o.length), (o, [], 0), rfl, ⟨⟨rfl, hm, by simp, by simp, hn, hx, fun j hj => by dsimp only at hj; omega⟩, by simp⟩, ?_⟩
      rintro x ⟨o', v, k, h1, h2, h3, rfl⟩
      exact hp o' v k h1 h2 h3)
end
end Pi

/- Tree: small places: orders: the laws. -/
namespace Pi
open Go Go.Proofs
set_option maxRecDepth 100000
theorem fitStp {m : Nat} {x : D} (h : FitE PR (m + 3) 95 x) : ∃ p : Stp13, x = spE13 p := by
  obtain ⟨cs, rfl, hl, hf⟩ := fitE_struct (k := 3) Tryz.underlying95 (by kernel_rfl) h
  obtain ⟨a, b, c, rfl⟩ : ∃ a b c, cs = [a, b, c] := by
    match cs, hl with
    | [a, b, c], _ => exact ⟨a, b, c, rfl⟩
  have c1 : PR.cellsOf 5 = 1 := by kernel_rfl
  have g1 := hf _ (List.mem_cons_self ..)
  have g2 := hf _ (List.mem_cons_of_mem _ (List.mem_cons_self ..))
  have g3 := hf _ (List.mem_cons_of_mem _ (List.mem_cons_of_mem _ (List.mem_cons_self ..)))
  simp only [c1, List.drop_zero, List.drop_succ_cons, List.take_succ_cons, List.take_zero] at g1 g2 g3
  have one : ∀ {y : D}, Fit PR (m + 2) 5 [y] → ∃ b, y = bD b := fun {y} g => by
    refine fitB8 (m := m + 1) (fit_one (by kernel_rfl) (fun cs h => ?_) g)
    subst h
    obtain ⟨n, hn, _⟩ := fit_int Tryz.underlying5 g
    cases hn
  obtain ⟨b1, rfl⟩ := one g1
  obtain ⟨b2, rfl⟩ := one g2
  obtain ⟨b3, rfl⟩ := one g3
  exact ⟨(b1, b2, b3), rfl⟩
theorem fitStps {m : Nat} {x : D} (h : FitE PR (m + 4) 32 x) : ∃ l : List Stp13, x = .sl 3 (l.map spE13) := by
  obtain ⟨es, rfl, _, hy⟩ := fitE_slice (k := 3) Tryz.underlying32 (by kernel_rfl) h
  obtain ⟨l, rfl⟩ := fit_list spE13 _ (fun y hy => fitStp hy) es hy
  exact ⟨l, rfl⟩
theorem run_small {X : XF} {f : Nat} {h0 : KF1} (hf : FD X f h0) (hh : ∀ l nm n, h0 [stps13 l, idsB nm, .d (.int .u16 n)] [] (fun x => x = (.d (.bool true), []))) (xs : List D) (hx : FitAll PR 8 [32, 33, 34] xs) : ∃ lf k R, runF PR (kpT X) lf k f (xs.map P.d) [] = some (.d (.bool true), R) := by
  obtain ⟨x, r, rfl, h1, hx⟩ := fitAll_cons hx
  obtain ⟨y, r, rfl, h2, hx⟩ := fitAll_cons hx
  obtain ⟨z, r, rfl, h3, hx⟩ := fitAll_cons hx
  have e := fitAll_nil hx
  subst e
  obtain ⟨l, rfl⟩ := fitStps h1
  obtain ⟨nm, rfl⟩ := fitBs h2
  obtain ⟨n, rfl, _⟩ := fitE_int Tryz.underlying34 h3
  obtain ⟨lf, k, hr⟩ := hf.run (y := (.d (.bool true), [])) (hh l nm n)
  exact ⟨lf, k, [], hr⟩
section
variable {X : XF}
end
theorem abc_ok {c : UInt8} (h : c ∈ ([97, 98, 99] : List UInt8)) : nameOk [c] = true := by
  simp only [List.mem_cons, List.not_mem_nil, or_false] at h
  rcases h with rfl | rfl | rfl <;> decide
theorem smR_ok {o : List Pl} {v : List Id3} (h : SmR o v) : ∀ p ∈ o, okPl p = true := fun p hp => by
  obtain ⟨_, _, _, h4⟩ := h
  obtain ⟨⟨x, h1, h8, e⟩, c, hc, hn⟩ := h4 p hp
  simp only [okPl, Bool.and_eq_true, hn, abc_ok hc, e]
  refine ⟨?_, trivial⟩
  simp only [rightId, decide_eq_true_eq]
  omega
theorem smR_tk {o : List Pl} {v : List Id3} (h : SmR o v) : tkL o = o := tkL_all (smR_ok h) h.2.2.1
theorem smR_rt {o : List Pl} {v : List Id3} (h : SmR o v) : Rt o := ⟨h.2.2.1, smR_ok h⟩
section
variable {X : XF} (hX : XT X)
include hX
end
end Pi

