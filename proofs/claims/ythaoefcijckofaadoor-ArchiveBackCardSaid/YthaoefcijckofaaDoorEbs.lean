/- The texts A6H W3. -/
import Derived.Test.YthaoefcijckofaaDoorEbr
import Derived.Lib.LaidTab
import Derived.Lib.LaidU8
import Derived.Stop.LaidErr
import Derived.Shelf.Vars
import Derived.Lay
import Derived.Deep.DeepHandedRow
import Derived.SevenTiedAt
import Derived.ProofKit
import Derived.Test.YthaoefcijckofaaDoorRows
/- Archive: Same, few, awake, the law. -/
namespace Pi
open Go Go.Proofs
set_option maxRecDepth 100000
theorem sameE (e f : En3) : (D.sVal (D.cAt (enD e) 0) == D.sVal (D.cAt (enD f) 0) && (D.bVal (D.cAt (enD e) 1) == D.bVal (D.cAt (enD f) 1) && (D.sVal (D.cAt (enD e) 2) == D.sVal (D.cAt (enD f) 2) && true))) = decide (e = f) := by
  obtain ⟨a, b, c⟩ := e
  obtain ⟨a', b', c'⟩ := f
  show (a == a' && (b == b' && (c == c' && true))) = _
  rw [Bool.eq_iff_iff]
  simp
theorem take_en (l : List En3) : List.take l.length (l.map enD) = l.map enD := List.take_of_length_le (by simp)
theorem en_inj {l m : List En3} (h : l.map enD = m.map enD) : l = m := by
  have hi : ∀ e f : En3, enD e = enD f → e = f := fun e f h => by
    obtain ⟨a, b, c⟩ := e
    obtain ⟨a', b', c'⟩ := f
    simp only [enD, D.agg.injEq, List.cons.injEq, D.str.injEq, D.bool.injEq, and_true] at h
    obtain ⟨rfl, rfl, rfl⟩ := h
    rfl
  induction l generalizing m with
  | nil => cases m with | nil => rfl | cons x m => cases h
  | cons e l ih =>
    cases m with
    | nil => cases h
    | cons f m =>
      simp only [List.map_cons, List.cons.injEq] at h
      rw [hi e f h.1, ih h.2]
section
variable {X : XF}
theorem loopSa : LD X 51 4 (loopHook (kpF 51 4) gSa) := LD.par (H := []) (hk := []) (by kernel_rfl) (by kernel_rfl) .nil .nil
  (A := List En3 × List En3) (B := Int) (fun a k => saH a.1 a.2 k)
  (fun a k => (a.1.length = a.2.length ∧ a.1.length ≤ 3000000) ∧ (0 ≤ k ∧ k.toNat ≤ a.1.length) ∧ a.1.take k.toNat = a.2.take k.toNat)
  (fun a k => (a.1.length - k).toNat)
  (fun a x => (a.1 ≠ a.2 ∧ x = (.ret, ⟨26, [(4, bD' false)], []⟩)) ∨ (a.1 = a.2 ∧ x = (.exit 0, ⟨26, [], []⟩)))
  (by
    rintro ⟨v, w⟩ k ⟨⟨hl, hm⟩, ⟨h0, h1⟩, ht⟩
    dsimp only at *
    rw [← vcSaN]
    simp only [List.length_map]
    refine condP (fun h => ?_) fun h => ?_
    · have hk : k.toNat < v.length := by omega
      have hk2 : k.toNat < w.length := by omega
      rw [en_nth hk, en_nth hk2, sameE]
      refine oblP ⟨h0, by omega⟩ (oblI (isDe _) (oblP ⟨h0, by omega⟩ (oblI (isDe _) (condI (fun h2 => ?_) fun h2 => oblI (incI (by omega) (by omega)) ?_))))
      · refine .inl ⟨fun e => ?_, rfl⟩
        subst e
        simp at h2
      · refine ⟨_, ?_, k + 1, rfl, ⟨⟨hl, hm⟩, ⟨by omega, by omega⟩, ?_⟩, rfl⟩
        · omega
        · have h3 : v.getD k.toNat ([], false, []) = w.getD k.toNat ([], false, []) := by simpa using h2
          rw [show (k + 1).toNat = k.toNat + 1 by omega, List.take_add_one, List.take_add_one, ht]
          simp only [List.getD_eq_getElem?_getD, List.getElem?_eq_getElem hk, List.getElem?_eq_getElem hk2, Option.getD_some] at h3
          rw [List.getElem?_eq_getElem hk, List.getElem?_eq_getElem hk2, h3]
    · refine .inr ⟨?_, rfl⟩
      rw [List.take_of_length_le (by omega), List.take_of_length_le (by omega)] at ht
      exact ht)
  (by
    rintro s post ⟨v, w, rfl, ⟨hl, hm⟩, h1, h2⟩
    refine ⟨(v, w), 0, rfl, ⟨⟨hl, hm⟩, ⟨by decide, by simp⟩, by simp⟩, ?_⟩
    rintro x (⟨h3, rfl⟩ | ⟨h3, rfl⟩)
    · exact h1 h3
    · exact h2 h3)
theorem okSameE : FD X 51 hSameE := FD.mk (H := []) (hk := [(4, loopHook (kpF 51 4) gSa)]) (by kernel_rfl) .nil (.cons loopSa .nil) (by
  intro ps R post hh
  obtain ⟨v, w, rfl, rfl, hm, hp⟩ := hh
  rw [← vcSa]
  simp only [List.length_map]
  refine condN (fun h => ?_) fun h => ⟨v, w, rfl, ⟨by omega, hm⟩, fun h => hp false ⟨fun h2 => (by cases h2), fun h2 => absurd h2 h⟩, fun h => hp true ⟨fun _ => h, fun _ => rfl⟩⟩
  exact hp false ⟨fun h2 => (by cases h2), fun h2 => by subst h2; exact absurd rfl h⟩)
theorem loopFe : LD X 48 2 (loopHook (kpF 48 2) gFe) := LD.par (H := []) (hk := []) (by kernel_rfl) (by kernel_rfl) .nil .nil
  (A := List En3) (B := Int) (fun a k => feH a k)
  (fun a k => (0 ≤ k ∧ k.toNat ≤ a.length ∧ k ≤ 61) ∧ ∀ e ∈ a.take k.toNat, e.2.2.length ≤ 200 ∧ e.1.length ≤ 1000)
  (fun _ k => (100 - k).toNat)
  (fun a x => (¬ FewL a ∧ x = (.ret, ⟨33, [(0, esP a), (2, bD' false)], []⟩)) ∨ ((a.length ≤ 60 → FewL a) ∧ x = (.exit 0, ⟨33, [(0, esP a)], []⟩)))
  (by
    rintro l k ⟨⟨h0, h1, h60⟩, ht⟩
    rw [← vcFeN]
    simp only [List.length_map]
    refine condP (fun h => condP (fun hk6 => ?_) fun hk6 => .inr ⟨fun hl => by omega, rfl⟩) fun h => .inr ⟨fun hl => ⟨hl, fun e he => ht e (by rw [List.take_of_length_le (by omega)]; exact he)⟩, rfl⟩
    have hk : k.toNat < l.length := by omega
    rw [en_nth hk]
    have hmem : l.getD k.toNat ([], false, []) ∈ l := by simp [List.getD_eq_getElem?_getD, hk]
    have htk : l.take (k.toNat + 1) = l.take k.toNat ++ [l.getD k.toNat ([], false, [])] := by
      rw [List.take_add_one, List.getElem?_eq_getElem hk]
      simp [List.getD_eq_getElem?_getD, hk]
    generalize l.getD k.toNat ([], false, []) = e at hmem htk
    have v0 : D.sVal (D.cAt (enD e) 0) = e.1 := rfl
    have v2 : D.sVal (D.cAt (enD e) 2) = e.2.2 := rfl
    rw [v0, v2]
    refine oblP ⟨h0, by omega⟩ (oblI (isDe _) (condP (fun h2 => .inl ⟨fun hf => ?_, rfl⟩) fun h2 => oblP ⟨h0, by omega⟩ (oblI (isDe _) (condP (fun h3 => .inl ⟨fun hf => ?_, rfl⟩) fun h3 => oblI (incI (by omega) (by omega)) ?_))))
    · have := (hf.2 e hmem).1; omega
    · have := (hf.2 e hmem).2; omega
    · refine ⟨_, ?_, k + 1, rfl, ⟨⟨by omega, by omega, by omega⟩, ?_⟩, rfl⟩
      · omega
      · rw [show (k + 1).toNat = k.toNat + 1 by omega, htk]
        intro x hx
        rcases List.mem_append.1 hx with hx | hx
        · exact ht x hx
        · simp at hx; subst hx; omega)
  (by
    rintro s post ⟨l, rfl, h1, h2⟩
    refine ⟨l, 0, rfl, ⟨⟨by decide, by simp, by decide⟩, by simp⟩, ?_⟩
    rintro x (⟨h3, rfl⟩ | ⟨h3, rfl⟩)
    · exact h1 h3
    · exact h2 h3)
theorem okFew : FD X 48 hFew := FD.mk (H := []) (hk := [(2, loopHook (kpF 48 2) gFe)]) (by kernel_rfl) .nil (.cons loopFe .nil) (by
  intro ps R post hh
  obtain ⟨l, rfl, rfl, hp⟩ := hh
  rw [← vcFe]
  refine ⟨l, rfl, fun h => hp false ⟨fun h2 => (by cases h2), fun h2 => absurd h2 h⟩, fun h => hp _ ?_⟩
  simp only [List.length_map, decide_eq_true_eq]
  exact ⟨fun h2 => h (by omega), fun h2 => by have := h2.1; omega⟩)
def l0 : List En3 := [([47, 97], true, []), ([47, 97, 47, 102], false, [120])]
theorem chk0 : ChkL l0 := fun i hi => match i, hi with
  | 0, _ => by kernel_rfl
  | 1, _ => by kernel_rfl
theorem chk1 : ¬ ChkL [([47, 97, 47, 102], false, [120])] := fun h => by
  have h1 := h 0 (by simp)
  have h2 : entOk [([47, 97, 47, 102], false, [120])] 0 ([([47, 97, 47, 102], false, [120])].getD 0 ([], false, [])) = false := by kernel_rfl
  rw [h2] at h1
  cases h1
theorem enc0 : natW l0.length ++ l0.flatMap encE = [2, 2, 47, 97, 1, 4, 47, 97, 47, 102, 0, 1, 120] := by
  simp [l0, encE, natW_lt]
theorem dec0 : DecR (natW l0.length ++ l0.flatMap encE) l0 := decR_ok chk0 (by simp [l0]) (fun e he => by
  simp only [l0, List.mem_cons, List.not_mem_nil, or_false] at he
  rcases he with rfl | rfl <;> simp)
theorem okAwake17 : FD X 47 hAwake17 := FD.mk (H := [(49, hEnc), (50, hDec), (51, hSameE)]) (hk := []) (by kernel_rfl) (.cons okEnc (.cons okDec (.cons okSameE .nil))) .nil (by
  intro ps R post hh
  obtain ⟨rfl, rfl, hp⟩ := hh
  rw [← vcAw]
  refine ⟨l0, rfl, rfl, ⟨by decide, fun e he => by simp only [l0, List.mem_cons, List.not_mem_nil, or_false] at he; rcases he with rfl | rfl <;> simp⟩, fun s e hse => ?_⟩
  obtain ⟨rfl, rfl⟩ := hse.1 chk0
  refine ⟨_, rfl, rfl, by rw [enc0]; decide, fun l hl => ?_, fun h => absurd dec0 (h l0)⟩
  have := decR_uniq hl dec0
  subst this
  refine ⟨[([47, 97, 47, 102], false, [120])], rfl, rfl, ⟨by decide, by simp⟩, fun s2 e2 hse2 => condT rfl (condT (by rw [enc0]; rfl) ⟨l0, l0, by rw [take_en]; rfl, rfl, by decide, fun b hb => ?_⟩)⟩
  obtain ⟨rfl, _⟩ := hse2.2 chk1
  rw [hb.2 rfl]
  exact hp)
def hLawB : KF1 := fun ps R post => ∃ l m s, ps = [esP l, esP m, sD s] ∧ R = [] ∧ post (bD' true, [])
def TailB (s : List UInt8) (post : P × List (Nat × En) → Prop) : Prop := bif decide ((↑(List.length s) : Int) > (5000 : Int)) then post (P.d (D.bool true), []) else ∃ (s_4 : List UInt8), [P.d (D.str s)] = [P.d (D.str s_4)] ∧ EqR [] [] ∧ List.length s_4 ≤ 2000000 ∧ (∀ (l : List En3), DecR s_4 l → ∃ (l_6 : List En3), [P.d (D.sl 3 (List.take (List.length l) (List.map enD l)))] = [P.d (D.sl 3 (List.map enD l_6))] ∧ EqR [] [] ∧ SmX l_6 ∧ ∀ (s_5 : List UInt8) (e : Int), (ChkL l_6 → e = (0 : Int) ∧ s_5 = natW (List.length l_6) ++ List.flatMap encE l_6) ∧ (¬ChkL l_6 → e = (80 : Int) ∧ s_5 = []) → bif e == (0 : Int) then post (P.d (D.bool (s_5 == s)), []) else post (P.d (D.bool false), [])) ∧ ((∀ (l : List En3), ¬DecR s_4 l) → ∃ (l : List En3), [P.d (D.sl 3 [])] = [P.d (D.sl 3 (List.map enD l))] ∧ EqR [] [] ∧ SmX l ∧ ∀ (s : List UInt8) (e : Int), (ChkL l → e = (0 : Int) ∧ s = natW (List.length l) ++ List.flatMap encE l) ∧ (¬ChkL l → e = (80 : Int) ∧ s = []) → post (P.d (D.bool true), []))
theorem tailB_ok (s : List UInt8) {post : P × List (Nat × En) → Prop} (hp : post (P.d (D.bool true), [])) : TailB s post := by
  unfold TailB
  refine condP (fun _ => hp) fun h => ⟨s, rfl, rfl, by omega, fun l hl => ⟨l, by rw [take_en], rfl, decR_small hl (by omega), fun s5 e he => ?_⟩, fun _ => ⟨[], rfl, rfl, ⟨by decide, by simp⟩, fun _ _ _ => hp⟩⟩
  obtain ⟨h1, h2⟩ := decR_inv hl
  obtain ⟨rfl, h3⟩ := he.1 h2
  refine condT rfl (leafB hp ?_)
  rw [h3, h1]
  simp [encL]
theorem okLawB : FD X 12 hLawB := FD.mk (H := [(47, hAwake17), (48, hFew), (49, hEnc), (50, hDec), (51, hSameE)]) (hk := []) (by kernel_rfl)
  (.cons okAwake17 (.cons okFew (.cons okEnc (.cons okDec (.cons okSameE .nil))))) .nil (by
  intro ps R post hh
  obtain ⟨l, m, s, rfl, rfl, hp⟩ := hh
  have tail : TailB s post := tailB_ok s hp
  rw [← vcLawB]
  refine ⟨rfl, rfl, l, rfl, rfl, fun b hb => condI (fun h1 => ?_) fun _ => tail⟩
  have fl := hb.1 h1
  have sl := few_small fl
  refine ⟨m, rfl, rfl, fun b2 hb2 => condI (fun h2 => ?_) fun _ => tail⟩
  have fm := hb2.1 h2
  have sm := few_small fm
  refine ⟨l, rfl, rfl, sl, fun s1 e1 he1 => ⟨m, rfl, rfl, sm, fun s2 e2 he2 => ?_⟩⟩
  have second : (bif e1 == (0 : Int) then bif e2 == (0 : Int) then ∃ (v : List En3), ∃ (w : List En3), [P.d (D.sl 3 (List.map enD l)), P.d (D.sl 3 (List.map enD m))] = [P.d (D.sl 3 (List.map enD v)), P.d (D.sl 3 (List.map enD w))] ∧ EqR [] [] ∧ List.length v ≤ 3000000 ∧ ∀ (b : Bool), (b = true ↔ v = w) → bif !(s1 == s2) == b then post (P.d (D.bool false), []) else TailB s post else TailB s post else TailB s post) := by
    refine condE (fun h3 => condE (fun h4 => ⟨l, m, rfl, rfl, by have := sl.1; omega, fun b hb => condF ?_ tail⟩) fun _ => tail) fun _ => tail
    have cl : ChkL l := Classical.byContradiction fun hc => by rw [(he1.2 hc).1] at h3; cases h3
    have cm : ChkL m := Classical.byContradiction fun hc => by rw [(he2.2 hc).1] at h4; cases h4
    have e : (s1 == s2) = b := by
      rw [Bool.eq_iff_iff, hb, (he1.1 cl).2, (he2.1 cm).2]
      simp only [beq_iff_eq]
      exact ⟨fun h => encL_inj cl cm sl sm h, fun h => by rw [h]⟩
    rw [e]
    simp
  refine condE (fun h3 => ?_) fun h3 => by
    have : (e1 == (0 : Int)) = false := by simpa using h3
    rw [this] at second
    exact condF this tail
  have cl : ChkL l := Classical.byContradiction fun hc => by rw [(he1.2 hc).1] at h3; cases h3
  have hs1 : s1 = encL l := (he1.1 cl).2
  have hdec : DecR s1 l := by
    rw [hs1]
    exact decR_ok cl (by have := sl.1; omega) fun e he => by have := sl.2 e he; omega
  refine ⟨s1, rfl, rfl, by rw [hs1]; exact encL_len fl, fun l5 hl5 => ?_, fun hno => absurd hdec (hno l)⟩
  have := decR_uniq hl5 hdec
  subst this
  refine ⟨_, _, by rw [take_en], rfl, by have := sl.1; omega, fun b hb => condF (by rw [hb.2 rfl]; rfl) second⟩)
theorem fitEn {m : Nat} {x : D} (h : FitE PR (m + 3) 54 x) : ∃ l : List En3, x = .sl 3 (l.map enD) := by
  obtain ⟨es, rfl, _, hy⟩ := fitE_slice (k := 3) Tryd.underlying54 (by kernel_rfl) h
  have : ∀ es : List D, (∀ y ∈ es, FitE PR (m + 2) 83 y) → ∃ l : List En3, es = l.map enD := by
    intro es
    induction es with
    | nil => intro _; exact ⟨[], rfl⟩
    | cons y es ih =>
      intro hy
      obtain ⟨l, rfl⟩ := ih fun y h => hy y (.tail _ h)
      have h1 := hy y (.head _)
      obtain ⟨cs, rfl, hl, hf⟩ := fitE_struct (k := 3) Tryd.underlying83 (by kernel_rfl) h1
      obtain ⟨a, b, c, rfl⟩ : ∃ a b c, cs = [a, b, c] := by
        match cs, hl with
        | [a, b, c], _ => exact ⟨a, b, c, rfl⟩
      have c1 : PR.cellsOf 9 = 1 := by kernel_rfl
      have c2 : PR.cellsOf 4 = 1 := by kernel_rfl
      have g1 := hf _ (List.mem_cons_self ..)
      have g2 := hf _ (List.mem_cons_of_mem _ (List.mem_cons_self ..))
      have g3 := hf _ (List.mem_cons_of_mem _ (List.mem_cons_of_mem _ (List.mem_cons_self ..)))
      simp only [c1, c2, List.drop_zero, List.drop_succ_cons, List.take_succ_cons, List.take_zero] at g1 g2 g3
      obtain ⟨s1, rfl, _⟩ := fit_str Tryd.underlying9 g1
      obtain ⟨b1, rfl⟩ := fit_bool Tryd.underlying4 g2
      obtain ⟨s2, rfl, _⟩ := fit_str Tryd.underlying9 g3
      exact ⟨(s1, b1, s2) :: l, rfl⟩
  obtain ⟨l, rfl⟩ := this es hy
  exact ⟨l, rfl⟩
theorem okArchiveBackLaw (xs : List D) (h : FitAll PR 8 [54, 54, 9] xs) : ∃ lf k R, runF PR (kpT X) lf k 12 (xs.map P.d) [] = some (.d (.bool true), R) := by
  obtain ⟨x, r, rfl, hx, h⟩ := fitAll_cons h
  obtain ⟨y, r, rfl, hy, h⟩ := fitAll_cons h
  obtain ⟨z, r, rfl, hz, h⟩ := fitAll_cons h
  have e := fitAll_nil h
  subst e
  obtain ⟨l, rfl⟩ := fitEn hx
  obtain ⟨m, rfl⟩ := fitEn hy
  obtain ⟨s, rfl⟩ := fitS hz
  obtain ⟨lf, k, hr⟩ := (okLawB (X := X)).run (y := (.d (.bool true), [])) ⟨l, m, s, rfl, rfl, rfl⟩
  exact ⟨lf, k, [], hr⟩
end
end Pi

/- Stamp: the world that a row's condition gives. -/
namespace Pi
open Go Go.Proofs Go.RowKit Go.Proofs.YthaoefcijckofaaDoor
set_option maxRecDepth 100000

abbrev laidL : List (String × DataW Unit) := [("math/bits.deBruijn32tab", Rows.laid_math_bits_deBruijn32tab), ("math/bits.deBruijn64tab", Rows.laid_math_bits_deBruijn64tab), ("internal/strconv.uint64pow10", Rows.laid_internal_strconv_uint64pow10), ("unicode/utf8.acceptRanges", Rows.laid_unicode_utf8_acceptRanges), ("strconv.ErrRange", Rows.laid_strconv_ErrRange), ("strconv.ErrSyntax", Rows.laid_strconv_ErrSyntax), ("unicode/utf8.first", Rows.laid_unicode_utf8_first)]

theorem gES : Tryd.prog.globalNamed "strconv.ErrSyntax" = some 0 := by kernel_rfl
theorem gER : Tryd.prog.globalNamed "strconv.ErrRange" = some 1 := by kernel_rfl
theorem gP : Tryd.prog.globalNamed "internal/strconv.uint64pow10" = some 5 := by kernel_rfl
theorem tES : (Tryd.prog.globals[0]?).map (·.type) = some 64 := by kernel_rfl
theorem tER : (Tryd.prog.globals[1]?).map (·.type) = some 64 := by kernel_rfl
theorem tP : (Tryd.prog.globals[5]?).map (·.type) = some 161 := by kernel_rfl
theorem starN : "*" ++ "errors.errorString" = "*errors.errorString" := by decide
theorem row98 (u : TypeId) (h : Tryd.prog.typeName? 3 u = some "*errors.errorString") : u = 157 :=
  typeName_ptr_named (nm := "errors.errorString") (by rw [starN]; kernel_rfl) (by kernel_rfl) (by decide) u (by rw [starN]; exact h)
theorem laidL_plain (w : World) (h : laidMetH Tryd.prog laidL w) : laidMet Tryd.prog laidL w := by
  unfold laidMetH at h
  have e : (laidL.filter fun x => x.2.handleName?.isSome) = [] := by kernel_rfl
  rw [e] at h
  exact h
theorem laidL_H (w : World) (h : laidMet Tryd.prog laidL w) : laidMetH Tryd.prog laidL w := by
  unfold laidMetH
  have e : (laidL.filter fun x => x.2.handleName?.isSome) = [] := by kernel_rfl
  rw [e]
  exact h
theorem laidP : (Rows.laid_internal_strconv_uint64pow10 : DataW Unit) = Lib.tabData .u64 Lib.pow10Tab := by kernel_rfl
theorem laidF : (Rows.laid_unicode_utf8_first : DataW Unit) = Lib.firstData := by kernel_rfl
theorem laidA : (Rows.laid_unicode_utf8_acceptRanges : DataW Unit) = Lib.acceptData := by kernel_rfl
theorem u8_of {W : World} (h : laidMet Tryd.prog laidL W) : Lib.Utf8Tabs 3 4 W :=
  utf8Tabs_of_reads (ρ := Tryd.lays146_ren) { Tryd.lays146 with } ⟨by kernel_rfl, by kernel_rfl, by kernel_rfl, by kernel_rfl, by kernel_rfl, by kernel_rfl, by kernel_rfl⟩
    (by rw [← laidF]; exact Lib.laidMet.reads h (.tail _ (.tail _ (.tail _ (.tail _ (.tail _ (.tail _ (.head _))))))))
    (by rw [← laidA]; exact Lib.laidMet.reads h (.tail _ (.tail _ (.tail _ (.head _)))))
theorem stW_of {W : World} (h0 : laidMetH Tryd.prog laidL W) (hs : W.ShapedOpen Tryd.prog) : StW W := by
  have h := laidL_plain W h0
  have h3 := h.tail.tail
  have h5 := h3.tail.tail
  have h6 := h5.tail
  obtain ⟨a1, s1, hv1, _, _, _⟩ := laid_sentinel h5 gER tER Tryd.underlying64 row98 Tryd.underlying157 Tryd.underlying159 rfl rfl Tryd.underlying9 (by kernel_rfl) (by kernel_rfl)
  obtain ⟨a0, s0, hv0, _, _, _⟩ := laid_sentinel h6 gES tES Tryd.underlying64 row98 Tryd.underlying157 Tryd.underlying159 rfl rfl Tryd.underlying9 (by kernel_rfl) (by kernel_rfl)
  have htab : Lib.TabIs Tryd.prog W "internal/strconv.uint64pow10" .u64 Lib.pow10Tab :=
    Lib.tabIs_of_head (k := .u64) (zs := Lib.pow10Tab) gP tP Tryd.underlying161 Tryd.underlying114 (by kernel_rfl) (by kernel_rfl) (by rw [← laidP]; exact h3)
  refine ⟨?_, ⟨_, by have := World.var?_cell gES hv0 0; simpa using this, .inr ⟨_, _, rfl⟩⟩, ⟨_, by have := World.var?_cell gER hv1 0; simpa using this, .inr ⟨_, _, rfl⟩⟩, fun w hw => ?_, u8_of h⟩
  · exact cell_of_shapedOpen_int (zero := #[.int .i64 0]) (t := 3) hs (Nat.le_of_ble_eq_true (by kernel_rfl)) (by kernel_rfl) rfl (by kernel_rfl) (by kernel_rfl) Tryd.underlying3
  · unfold Lib.TabIs World.var? at htab ⊢
    rw [gP] at htab ⊢
    simp only [Option.bind_some] at htab ⊢
    by_cases hb : 5 < W.heap.size
    · rw [hw 5 hb]
      exact htab
    · rw [Array.getElem?_eq_none (by omega)] at htab
      cases htab

/-- A world that meets the condition. -/
noncomputable def wL (os : Os) : World := World.laidAll Tryd.prog os laidL
theorem wL_met (os : Os) (args : Array Value) : laidMet Tryd.prog laidL ((wL os).forCall (fun _ _ => 0) ⟨#[], args, []⟩).memory :=
  laidMet_laidAll _ (by kernel_rfl) (by kernel_rfl)
end Pi

