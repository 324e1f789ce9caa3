/- The texts SN T4 T4H T5 T5H TrD T5N T6 T6H T7. -/
import Derived.Test.YtccffeofkhkbcaaGreatDoorPiT
/- The seat's runs whose order is open. -/
namespace Pi
open Go Go.Proofs
set_option maxRecDepth 100000
/-- A round of a loop, in whatever order. -/
noncomputable def roundLN (H HN : List (FuncId × KF1)) (hk : List (Nat × (S → K (PX × S)))) (f id : Nat) (s : S) : K (PX × S) :=
  roundK (pexecN PR (runK PR kp0 dcT H 60 60) HN (kpF f) hk (dcT f) (loopOf PR f id)) (kpF f id) s
/-- A function's body, in whatever order. -/
noncomputable def bodyFN (H HN : List (FuncId × KF1)) (hk : List (Nat × (S → K (PX × S)))) (f : Nat) (ps : List P) (R : List (Nat × En)) : K (P × List (Nat × En)) :=
  bodyN PR (runK PR kp0 dcT H 60 60) HN kp0 hk dcT f ps R
def ND (w0 : World) (f : Nat) (h : KF1) : Prop := NOK PR w0 f h
def LN (w0 : World) (f id : Nat) (g : S → K (PX × S)) : Prop := ∀ (val : Nat → Value) s post, g s post → TW PR ⟨val, w0⟩ (.loop (loopOf PR f id)) s post
inductive NDs (w0 : World) : List (FuncId × KF1) → Prop
  | nil : NDs w0 []
  | cons {f : Nat} {h : KF1} {r : List (FuncId × KF1)} (hf : ND w0 f h) (hr : NDs w0 r) : NDs w0 ((f, h) :: r)
theorem NDs.get {w0 : World} {HN : List (FuncId × KF1)} (h : NDs w0 HN) : ∀ f g, lk HN f = some g → NOK PR w0 f g := by
  induction h with
  | nil => intro f g h; cases h
  | @cons f' h' r hf hr ih =>
    intro f g h
    unfold lk at h
    split at h
    · rename_i he
      cases h
      rw [← Nat.eq_of_beq_eq_true he]
      exact hf
    · exact ih f g h
inductive LNs (w0 : World) (f : Nat) : List (Nat × (S → K (PX × S))) → Prop
  | nil : LNs w0 f []
  | cons {id : Nat} {g : S → K (PX × S)} {r : List (Nat × (S → K (PX × S)))} (h : LN w0 f id g) (hr : LNs w0 f r) : LNs w0 f ((id, g) :: r)
theorem LNs.get {w0 : World} {f : Nat} {hk : List (Nat × (S → K (PX × S)))} (h : LNs w0 f hk) : ∀ id g, lk hk id = some g → LN w0 f id g := by
  induction h with
  | nil => intro f g h; cases h
  | @cons f' h' r hf hr ih =>
    intro f g h
    unfold lk at h
    split at h
    · rename_i he
      cases h
      rw [← Nat.eq_of_beq_eq_true he]
      exact hf
    · exact ih f g h
theorem kf_ok {X : XF} {H : List (FuncId × KF1)} (hH : HD X H) : KFOK (runK PR kp0 dcT H 60 60) (runF PR (kpT X)) := by
  have := runK_ok (lf := 60) (clsAll_ok dcOK) hH 60
  rw [runK_X PR kpF xsT X.cf (fun _ _ _ => none) dcT H 60 60] at this
  exact this
theorem ND.mk {X : XF} {w0 : World} (hX : CFOK PR w0 X.cf) {H HN : List (FuncId × KF1)} {hk : List (Nat × (S → K (PX × S)))} {f : Nat} {h : KF1} (hdr : PR.follows .mixedOrders = true) (hu : uniq PR f = true) (hH : HD X H) (hHN : NDs w0 HN) (hl : LNs w0 f hk)
    (hb : ∀ ps R post, h ps R post → bodyFN H HN hk f ps R post) : ND w0 f h :=
  NOK.mk (kp := kpT X) hHN.get (kf_ok hH) hX hdr dcOK hu hl.get (fun ps R post hp => hb ps R post hp)
/-- By parameters: a head, what is asked, what comes out. -/
theorem LN.par {X : XF} {w0 : World} (hX : CFOK PR w0 X.cf) {H HN : List (FuncId × KF1)} {hk : List (Nat × (S → K (PX × S)))} {f id : Nat} {g : S → K (PX × S)} (hdr : PR.follows .mixedOrders = true) (hu : uniq PR f = true) (hc : clsOK (dcT f) (loopOf PR f id) = true) (hH : HD X H) (hHN : NDs w0 HN) (hl : LNs w0 f hk)
    {A B : Type} (hd : A → B → S) (Inv : A → B → Prop) (mu : A → B → Nat) (Out : A → PX × S → Prop)
    (hr : ∀ a b, Inv a b → roundLN H HN hk f id (hd a b) (roundPost (mu a b) (fun m s => ∃ b', s = hd a b' ∧ Inv a b' ∧ m = mu a b') (Out a)))
    (hg : ∀ s post, g s post → ∃ a b, s = hd a b ∧ Inv a b ∧ ∀ x, Out a x → post x) : LN w0 f id (loopHook (kpF f id) g) := by
  intro val s post hp
  unfold loopHook at hp
  cases hh : headOf (kpF f id) s with
  | none => simp only [hh] at hp
  | some s0 =>
    simp only [hh] at hp
    obtain ⟨a, b, rfl, h1, h2⟩ := hg s0 post hp
    refine TW.mono (TW.loop (keep := kpF f id) (I := fun m s => ∃ b', s = hd a b' ∧ Inv a b' ∧ m = mu a b') (O := Out a) (fun n s hs => ?_) hh ⟨b, rfl, h1, rfl⟩) h2
    obtain ⟨b', rfl, h3, rfl⟩ := hs
    have := hr a b' h3
    unfold roundLN at this
    refine TW.mono (pexecN_ok (kp := kpT X) (T := ⟨val, w0⟩) hHN.get (kf_ok hH) hX hdr (kp1 := kpF f) (loopOf PR f id) hc (fun d hd h hh s post hp => by
      have := hl.get _ _ hh val s post hp
      rwa [loopOf_in hu hd] at this) _ _ this) ?_
    rintro ⟨e, s1⟩ hx
    cases e with
    | normal =>
      obtain ⟨s2, h4, m, h5, h6⟩ := KW.ofO (p := fun s2 => headOf (kpF f id) s1 = some s2) (fun _ h => h) _ hx
      exact ⟨s2, h4, m, h5, h6⟩
    | exit i =>
      obtain ⟨s2, h4, h5⟩ := KW.ofO (p := fun s2 => behindOf (kpF f id) s1 = some s2) (fun _ h => h) _ hx
      exact ⟨s2, h4, h5⟩
    | ret =>
      obtain ⟨s2, h4, h5⟩ := KW.ofO (p := fun s2 => behindOf (kpF f id) s1 = some s2) (fun _ h => h) _ hx
      exact ⟨s2, h4, h5⟩
/-- slices.SortFunc, of one row that is lent. -/
def hSortA (g : FuncId) (cf : D → D → Int) (ty : TypeId) : KF1 := fun ps R post => ∃ es, ps = [.sl 0 0 es.length, .fn g []] ∧ R = [(0, ⟨0, some 0, .arr ty false es⟩)] ∧ CmpOn PR kp0 g es cf ∧
  ∀ es' : List D, es'.Perm es → es'.Pairwise (fun a b => ¬ cf b a < 0) → post (.tup [], [(0, ⟨0, some 0, .arr ty false es'⟩)])
theorem hSortA_hSort {g : FuncId} {cf : D → D → Int} {ty : TypeId} {ps : List P} {R : List (Nat × En)} {post : P × List (Nat × En) → Prop} (h : hSortA g cf ty ps R post) : hSort PR kp0 ty ps R post := by
  obtain ⟨es, rfl, rfl, hc, hp⟩ := h
  exact ⟨0, g, ⟨0, some 0, .arr ty false es⟩, es, cf, rfl, rfl, rfl, hc, fun es' h1 h2 => hp es' h1 h2⟩
end Pi

/- Tree: mark, rising, name, path: what their runs ask. -/
namespace Pi
open Go Go.Proofs
set_option maxRecDepth 100000
set_option maxHeartbeats 0
/-! mark -/
abbrev itE (n : Nat) (g : D → Option D) (e : Option (D × D)) : List (Nat × En) := [(n, ⟨0, none, .iter 41 62 g e⟩)]
abbrev mk1 (T : List Pl) (f2 f3 f4 : D → Option D) (g : D → Option D) (e : Option (D × D)) (c1 c2 c3 c4 : Int) : S :=
  ⟨49, [(0, .ref 0 0 0), (13, .ref 5 0 0)], nodT (plM T) f2 f3 f4 c1 c2 c3 c4 true false ++ itE 5 g e⟩
abbrev mk6 (T : List Pl) (f2 f3 f4 : D → Option D) (g : D → Option D) (e : Option (D × D)) (w : List Id3) (n : Nat) (k : Int) (c1 c2 c3 c4 : Int) : S :=
  ⟨49, [(0, .ref 0 0 0), (13, .ref 5 0 0), (26, .sl 6 0 n), (27, iD n), (28, iD k)], nodT (plM T) f2 f3 f4 c1 c2 c3 c4 true false ++ itE 5 g e ++ [(6, ⟨0, none, .arr 41 false (w.map ixD)⟩)]⟩
def gMk6 : S → K (PX × S) := fun s post => ∃ T f2 f4 g e S w c2 c4, s = mk6 T f2 (inM S) f4 g e w w.length 0 (T.length : Int) c2 (S.length : Int) c4 ∧ (w.length ≤ 1000000 ∧ S.length ≤ 1000000) ∧
  post (.exit 1, mk1 T f2 (inM (mkF S w)) f4 g e (T.length : Int) c2 ((mkF S w).length : Int) c4) ∧ post (.exit 2, mk1 T f2 (inM (mkF S w)) f4 g e (T.length : Int) c2 ((mkF S w).length : Int) c4)
theorem vcMk6 (T : List Pl) (f2 f4 g : D → Option D) (e : Option (D × D)) (V : List Id3) (w : List Id3) (n : Nat) (k c1 c2 c3 c4 : Int) (post : PX × S → Prop) : (bif decide (k < (↑n : Int)) then bif decide ((0 : Int) ≤ k ∧ k < (↑n : Int)) then bif decide (Int.toNat k < List.length (List.map ixD w)) then bif isD PR (41 : TypeId) (D.nth (List.map ixD w) (Int.toNat k)) then bif isD PR 62 (getO (inM V (D.agg [D.int IntKind.i64 (D.iVal (D.cAt (D.nth (List.map ixD w) (Int.toNat k)) 0)), D.int IntKind.i64 (D.iVal (D.cAt (D.nth (List.map ixD w) (Int.toNat k)) 1)), D.int IntKind.i64 (D.iVal (D.cAt (D.nth (List.map ixD w) (Int.toNat k)) 2))])) (D.agg [])) then bif Option.isSome (inM V (D.agg [D.int IntKind.i64 (D.iVal (D.cAt (D.nth (List.map ixD w) (Int.toNat k)) 0)), D.int IntKind.i64 (D.iVal (D.cAt (D.nth (List.map ixD w) (Int.toNat k)) 1)), D.int IntKind.i64 (D.iVal (D.cAt (D.nth (List.map ixD w) (Int.toNat k)) 2))])) then post (PX.exit 1, S.mk 49 [(0, P.ref 0 0 0), (13, P.ref 5 0 0)] [(0, En.mk 0 (some 0) (Obj.box 61 [P.mp 1 0, P.mp 2 0, P.mp 3 0, P.mp 4 0])), (1, En.mk 0 (some 1) (Obj.map 41 (fun (x : D) => match x with | D.agg [D.int IntKind.i64 a, D.int IntKind.i64 b, D.int IntKind.i64 c] => Option.map plD (atPl T (a, b, c)) | _ => none) c1 false)), (2, En.mk 0 (some 2) (Obj.map 41 f2 c2 true)), (3, En.mk 0 (some 3) (Obj.map 41 (fun (x : D) => match x with | D.agg [D.int IntKind.i64 a, D.int IntKind.i64 b, D.int IntKind.i64 c] => Option.map (fun (_ : Unit) => D.agg []) ((fun (x : Id3) => if x ∈ V then some () else none) (a, b, c)) | _ => none) c3 false)), (4, En.mk 0 (some 4) (Obj.map 41 f4 c4 false)), (5, En.mk 0 none (Obj.iter 41 62 g e))]) else bif decide ((-9223372036854775808 : Int) ≤ k + (1 : Int) ∧ k + (1 : Int) ≤ (9223372036854775807 : Int)) then post (PX.normal, S.mk 49 [(0, P.ref 0 0 0), (13, P.ref 5 0 0), (26, P.sl 6 0 n), (27, P.d (D.int IntKind.i64 (↑n : Int))), (28, P.d (D.int IntKind.i64 (k + (1 : Int))))] [(0, En.mk 0 (some 0) (Obj.box 61 [P.mp 1 0, P.mp 2 0, P.mp 3 0, P.mp 4 0])), (1, En.mk 0 (some 1) (Obj.map 41 (fun (x : D) => match x with | D.agg [D.int IntKind.i64 a, D.int IntKind.i64 b, D.int IntKind.i64 c] => Option.map plD (atPl T (a, b, c)) | _ => none) c1 false)), (2, En.mk 0 (some 2) (Obj.map 41 f2 c2 true)), (3, En.mk 0 (some 3) (Obj.map 41 (fun (k' : D) => bif D.eqB (D.agg [D.int IntKind.i64 (D.iVal (D.cAt (D.nth (List.map ixD w) (Int.toNat k)) 0)), D.int IntKind.i64 (D.iVal (D.cAt (D.nth (List.map ixD w) (Int.toNat k)) (0 + 1))), D.int IntKind.i64 (D.iVal (D.cAt (D.nth (List.map ixD w) (Int.toNat k)) (0 + 1 + 1)))]) k' then some (D.agg []) else inM V k') (bif Option.isSome (inM V (D.agg [D.int IntKind.i64 (D.iVal (D.cAt (D.nth (List.map ixD w) (Int.toNat k)) 0)), D.int IntKind.i64 (D.iVal (D.cAt (D.nth (List.map ixD w) (Int.toNat k)) 1)), D.int IntKind.i64 (D.iVal (D.cAt (D.nth (List.map ixD w) (Int.toNat k)) 2))])) then c3 else c3 + (1 : Int)) false)), (4, En.mk 0 (some 4) (Obj.map 41 f4 c4 false)), (5, En.mk 0 none (Obj.iter 41 62 g e)), (6, En.mk 0 none (Obj.arr 41 false (List.map ixD w)))]) else False else False else False else False else False else post (PX.exit 2, S.mk 49 [(0, P.ref 0 0 0), (13, P.ref 5 0 0)] [(0, En.mk 0 (some 0) (Obj.box 61 [P.mp 1 0, P.mp 2 0, P.mp 3 0, P.mp 4 0])), (1, En.mk 0 (some 1) (Obj.map 41 (fun (x : D) => match x with | D.agg [D.int IntKind.i64 a, D.int IntKind.i64 b, D.int IntKind.i64 c] => Option.map plD (atPl T (a, b, c)) | _ => none) c1 false)), (2, En.mk 0 (some 2) (Obj.map 41 f2 c2 true)), (3, En.mk 0 (some 3) (Obj.map 41 (fun (x : D) => match x with | D.agg [D.int IntKind.i64 a, D.int IntKind.i64 b, D.int IntKind.i64 c] => Option.map (fun (_ : Unit) => D.agg []) ((fun (x : Id3) => if x ∈ V then some () else none) (a, b, c)) | _ => none) c3 false)), (4, En.mk 0 (some 4) (Obj.map 41 f4 c4 false)), (5, En.mk 0 none (Obj.iter 41 62 g e))])) = (roundLN [] [] [] 27 6 (mk6 T f2 (inM V) f4 g e w n k c1 c2 c3 c4)) post := by kernel_rfl
theorem vcMk1 (T : List Pl) (f2 f3 f4 g : D → Option D) (e : Option (D × D)) (c1 c2 c3 c4 : Int) (post : PX × S → Prop) : ((∀ (k x : D), g k = some x → bif isD PR 41 k then bif isD PR 62 x then ∃ (T_1 : List Pl), ∃ (x : Id3), ∃ (f2_1 : D → Option D), ∃ (f3_1 : D → Option D), ∃ (f4_1 : D → Option D), ∃ (c2_1 : Int), ∃ (c3_1 : Int), ∃ (c4_1 : Int), ∃ (z2 : Bool), ∃ (z3 : Bool), [P.ref 0 0 0, P.d (D.agg [D.int IntKind.i64 (D.iVal (D.cAt k 0)), D.int IntKind.i64 (D.iVal (D.cAt k 1)), D.int IntKind.i64 (D.iVal (D.cAt k 2))])] = [P.ref 0 0 0, P.d (D.agg [D.int IntKind.i64 (Prod.fst x), D.int IntKind.i64 (Prod.fst (Prod.snd x)), D.int IntKind.i64 (Prod.snd (Prod.snd x))])] ∧ [(0, En.mk 0 (some 0) (Obj.box 61 [P.mp 1 0, P.mp 2 0, P.mp 3 0, P.mp 4 0])), (1, En.mk 0 (some 1) (Obj.map 41 (fun (x : D) => match x with | D.agg [D.int IntKind.i64 a, D.int IntKind.i64 b, D.int IntKind.i64 c] => Option.map plD (atPl T (a, b, c)) | _ => none) c1 false)), (2, En.mk 0 (some 2) (Obj.map 41 f2 c2 true)), (3, En.mk 0 (some 3) (Obj.map 41 f3 c3 false)), (4, En.mk 0 (some 4) (Obj.map 41 f4 c4 false))] = [(0, En.mk 0 (some 0) (Obj.box 61 [P.mp 1 0, P.mp 2 0, P.mp 3 0, P.mp 4 0])), (1, En.mk 0 (some 1) (Obj.map 41 (fun (x : D) => match x with | D.agg [D.int IntKind.i64 a, D.int IntKind.i64 b, D.int IntKind.i64 c] => Option.map plD (atPl T_1 (a, b, c)) | _ => none) (↑(List.length T_1) : Int) false)), (2, En.mk 0 (some 2) (Obj.map 41 f2_1 c2_1 z2)), (3, En.mk 0 (some 3) (Obj.map 41 f3_1 c3_1 z3)), (4, En.mk 0 (some 4) (Obj.map 41 f4_1 c4_1 false))] ∧ List.length T_1 ≤ 1000000 ∧ (∀ (l : List Id3), wy T_1 x = some l → ∃ (T : List Pl), ∃ (f2 : D → Option D), ∃ (f4 : D → Option D), ∃ (g_1 : D → Option D), ∃ (e : Option (D × D)), ∃ (S : List Id3), ∃ (w : List Id3), ∃ (c2 : Int), ∃ (c4 : Int), Pi.S.mk 49 [(0, P.ref 0 0 0), (13, P.ref 5 0 0), (26, P.sl 6 0 (List.length l)), (27, P.d (D.int IntKind.i64 (↑(List.length l) : Int))), (28, P.d (D.int IntKind.i64 (0 : Int)))] [(0, En.mk 0 (some 0) (Obj.box 61 [P.mp 1 0, P.mp 2 0, P.mp 3 0, P.mp 4 0])), (1, En.mk 0 (some 1) (Obj.map 41 (fun (x : D) => match x with | D.agg [D.int IntKind.i64 a, D.int IntKind.i64 b, D.int IntKind.i64 c] => Option.map plD (atPl T_1 (a, b, c)) | _ => none) (↑(List.length T_1) : Int) false)), (2, En.mk 0 (some 2) (Obj.map 41 f2_1 c2_1 z2)), (3, En.mk 0 (some 3) (Obj.map 41 f3_1 c3_1 z3)), (4, En.mk 0 (some 4) (Obj.map 41 f4_1 c4_1 false)), (5, En.mk 0 none (Obj.iter 41 62 (fun (k' : D) => bif D.eqB (D.agg [D.int IntKind.i64 (D.iVal (D.cAt k 0)), D.int IntKind.i64 (D.iVal (D.cAt k (0 + 1))), D.int IntKind.i64 (D.iVal (D.cAt k (0 + 1 + 1)))]) k' then none else g k') (some (D.agg [D.int IntKind.i64 (D.iVal (D.cAt k 0)), D.int IntKind.i64 (D.iVal (D.cAt k 1)), D.int IntKind.i64 (D.iVal (D.cAt k 2))], D.agg [])))), (6, En.mk 0 none (Obj.arr 41 false (List.map ixD l)))] = Pi.S.mk 49 [(0, P.ref 0 0 0), (13, P.ref 5 0 0), (26, P.sl 6 0 (List.length w)), (27, P.d (D.int IntKind.i64 (↑(List.length w) : Int))), (28, P.d (D.int IntKind.i64 (0 : Int)))] [(0, En.mk 0 (some 0) (Obj.box 61 [P.mp 1 0, P.mp 2 0, P.mp 3 0, P.mp 4 0])), (1, En.mk 0 (some 1) (Obj.map 41 (fun (x : D) => match x with | D.agg [D.int IntKind.i64 a, D.int IntKind.i64 b, D.int IntKind.i64 c] => Option.map plD (atPl T (a, b, c)) | _ => none) (↑(List.length T) : Int) false)), (2, En.mk 0 (some 2) (Obj.map 41 f2 c2 true)), (3, En.mk 0 (some 3) (Obj.map 41 (fun (x : D) => match x with | D.agg [D.int IntKind.i64 a, D.int IntKind.i64 b, D.int IntKind.i64 c] => Option.map (fun (_ : Unit) => D.agg []) ((fun (x : Id3) => if x ∈ S then some () else none) (a, b, c)) | _ => none) (↑(List.length S) : Int) false)), (4, En.mk 0 (some 4) (Obj.map 41 f4 c4 false)), (5, En.mk 0 none (Obj.iter 41 62 g_1 e)), (6, En.mk 0 none (Obj.arr 41 false (List.map ixD w)))] ∧ (List.length w ≤ 1000000 ∧ List.length S ≤ 1000000) ∧ post (PX.normal, Pi.S.mk 49 [(0, P.ref 0 0 0), (13, P.ref 5 0 0)] [(0, En.mk 0 (some 0) (Obj.box 61 [P.mp 1 0, P.mp 2 0, P.mp 3 0, P.mp 4 0])), (1, En.mk 0 (some 1) (Obj.map 41 (fun (x : D) => match x with | D.agg [D.int IntKind.i64 a, D.int IntKind.i64 b, D.int IntKind.i64 c] => Option.map plD (atPl T (a, b, c)) | _ => none) (↑(List.length T) : Int) false)), (2, En.mk 0 (some 2) (Obj.map 41 f2 c2 true)), (3, En.mk 0 (some 3) (Obj.map 41 (fun (x : D) => match x with | D.agg [D.int IntKind.i64 a, D.int IntKind.i64 b, D.int IntKind.i64 c] => Option.map (fun (_ : Unit) => D.agg []) ((fun (x : Id3) => if x ∈ mkF S w then some () else none) (a, b, c)) | _ => none) (↑(List.length (mkF S w)) : Int) false)), (4, En.mk 0 (some 4) (Obj.map 41 f4 c4 false)), (5, En.mk 0 none (Obj.iter 41 62 g_1 e))]) ∧ post (PX.normal, Pi.S.mk 49 [(0, P.ref 0 0 0), (13, P.ref 5 0 0)] [(0, En.mk 0 (some 0) (Obj.box 61 [P.mp 1 0, P.mp 2 0, P.mp 3 0, P.mp 4 0])), (1, En.mk 0 (some 1) (Obj.map 41 (fun (x : D) => match x with | D.agg [D.int IntKind.i64 a, D.int IntKind.i64 b, D.int IntKind.i64 c] => Option.map plD (atPl T (a, b, c)) | _ => none) (↑(List.length T) : Int) false)), (2, En.mk 0 (some 2) (Obj.map 41 f2 c2 true)), (3, En.mk 0 (some 3) (Obj.map 41 (fun (x : D) => match x with | D.agg [D.int IntKind.i64 a, D.int IntKind.i64 b, D.int IntKind.i64 c] => Option.map (fun (_ : Unit) => D.agg []) ((fun (x : Id3) => if x ∈ mkF S w then some () else none) (a, b, c)) | _ => none) (↑(List.length (mkF S w)) : Int) false)), (4, En.mk 0 (some 4) (Obj.map 41 f4 c4 false)), (5, En.mk 0 none (Obj.iter 41 62 g_1 e))])) ∧ (wy T_1 x = none → post (PX.normal, S.mk 49 [(0, P.ref 0 0 0), (13, P.ref 5 0 0)] [(0, En.mk 0 (some 0) (Obj.box 61 [P.mp 1 0, P.mp 2 0, P.mp 3 0, P.mp 4 0])), (1, En.mk 0 (some 1) (Obj.map 41 (fun (x : D) => match x with | D.agg [D.int IntKind.i64 a, D.int IntKind.i64 b, D.int IntKind.i64 c] => Option.map plD (atPl T_1 (a, b, c)) | _ => none) (↑(List.length T_1) : Int) false)), (2, En.mk 0 (some 2) (Obj.map 41 f2_1 c2_1 z2)), (3, En.mk 0 (some 3) (Obj.map 41 f3_1 c3_1 z3)), (4, En.mk 0 (some 4) (Obj.map 41 f4_1 c4_1 false)), (5, En.mk 0 none (Obj.iter 41 62 (fun (k' : D) => bif D.eqB (D.agg [D.int IntKind.i64 (D.iVal (D.cAt k 0)), D.int IntKind.i64 (D.iVal (D.cAt k (0 + 1))), D.int IntKind.i64 (D.iVal (D.cAt k (0 + 1 + 1)))]) k' then none else g k') (some (D.agg [D.int IntKind.i64 (D.iVal (D.cAt k 0)), D.int IntKind.i64 (D.iVal (D.cAt k 1)), D.int IntKind.i64 (D.iVal (D.cAt k 2))], D.agg []))))])) else False else False) ∧ ((∀ (k : D), g k = none) → post (PX.exit 0, S.mk 49 [(0, P.ref 0 0 0)] [(0, En.mk 0 (some 0) (Obj.box 61 [P.mp 1 0, P.mp 2 0, P.mp 3 0, P.mp 4 0])), (1, En.mk 0 (some 1) (Obj.map 41 (fun (x : D) => match x with | D.agg [D.int IntKind.i64 a, D.int IntKind.i64 b, D.int IntKind.i64 c] => Option.map plD (atPl T (a, b, c)) | _ => none) c1 false)), (2, En.mk 0 (some 2) (Obj.map 41 f2 c2 true)), (3, En.mk 0 (some 3) (Obj.map 41 f3 c3 false)), (4, En.mk 0 (some 4) (Obj.map 41 f4 c4 false))]))) = (roundLN [(49, hWay)] [] [(6, loopHook (kpF 27 6) gMk6)] 27 1 (mk1 T f2 f3 f4 g e c1 c2 c3 c4)) post := by kernel_rfl
def gMk1 : S → K (PX × S) := fun s post => ∃ T V f4 c4, s = mk1 T (inM V) noM f4 (inM V) none (T.length : Int) (V.length : Int) 0 c4 ∧ (T.length ≤ 1000000 ∧ Uq T ∧ V.Nodup) ∧
  post (.exit 0, ⟨49, [(0, .ref 0 0 0)], nodT (plM T) (inM V) (inM (seenI T V)) f4 (T.length : Int) (V.length : Int) ((seenI T V).length : Int) c4 true false⟩)
theorem vcMark (T : List Pl) (f2 f3 f4 : D → Option D) (c1 c2 c3 c4 : Int) (z2 : Bool) (post : P × List (Nat × En) → Prop) : (∃ (T_1 : List Pl), ∃ (V : List Id3), ∃ (f4_1 : D → Option D), ∃ (c4_1 : Int), S.mk 49 [(0, P.ref 0 0 0), (13, P.ref 5 0 0)] [(0, En.mk 0 (some 0) (Obj.box 61 [P.mp 1 0, P.mp 2 0, P.mp 3 0, P.mp 4 0])), (1, En.mk 0 (some 1) (Obj.map 41 (fun (x : D) => match x with | D.agg [D.int IntKind.i64 a, D.int IntKind.i64 b, D.int IntKind.i64 c] => Option.map plD (atPl T (a, b, c)) | _ => none) c1 false)), (2, En.mk 0 (some 2) (Obj.map 41 f2 c2 true)), (3, En.mk 0 (some 3) (Obj.map 41 f3 c3 false)), (4, En.mk 0 (some 4) (Obj.map 41 f4 c4 false)), (5, En.mk 0 none (Obj.iter 41 62 f2 none))] = S.mk 49 [(0, P.ref 0 0 0), (13, P.ref 5 0 0)] [(0, En.mk 0 (some 0) (Obj.box 61 [P.mp 1 0, P.mp 2 0, P.mp 3 0, P.mp 4 0])), (1, En.mk 0 (some 1) (Obj.map 41 (fun (x : D) => match x with | D.agg [D.int IntKind.i64 a, D.int IntKind.i64 b, D.int IntKind.i64 c] => Option.map plD (atPl T_1 (a, b, c)) | _ => none) (↑(List.length T_1) : Int) false)), (2, En.mk 0 (some 2) (Obj.map 41 (fun (x : D) => match x with | D.agg [D.int IntKind.i64 a, D.int IntKind.i64 b, D.int IntKind.i64 c] => Option.map (fun (_ : Unit) => D.agg []) ((fun (x : Id3) => if x ∈ V then some () else none) (a, b, c)) | _ => none) (↑(List.length V) : Int) true)), (3, En.mk 0 (some 3) (Obj.map 41 (fun (_ : D) => none) (0 : Int) false)), (4, En.mk 0 (some 4) (Obj.map 41 f4_1 c4_1 false)), (5, En.mk 0 none (Obj.iter 41 62 (fun (x : D) => match x with | D.agg [D.int IntKind.i64 a, D.int IntKind.i64 b, D.int IntKind.i64 c] => Option.map (fun (_ : Unit) => D.agg []) ((fun (x : Id3) => if x ∈ V then some () else none) (a, b, c)) | _ => none) none))] ∧ (List.length T_1 ≤ 1000000 ∧ Uq T_1 ∧ List.Nodup V) ∧ post (P.tup [], [(0, En.mk 0 (some 0) (Obj.box 61 [P.mp 1 0, P.mp 2 0, P.mp 3 0, P.mp 4 0])), (1, En.mk 0 (some 1) (Obj.map 41 (fun (x : D) => match x with | D.agg [D.int IntKind.i64 a, D.int IntKind.i64 b, D.int IntKind.i64 c] => Option.map plD (atPl T_1 (a, b, c)) | _ => none) (↑(List.length T_1) : Int) false)), (2, En.mk 0 (some 2) (Obj.map 41 (fun (x : D) => match x with | D.agg [D.int IntKind.i64 a, D.int IntKind.i64 b, D.int IntKind.i64 c] => Option.map (fun (_ : Unit) => D.agg []) ((fun (x : Id3) => if x ∈ V then some () else none) (a, b, c)) | _ => none) (↑(List.length V) : Int) true)), (3, En.mk 0 (some 3) (Obj.map 41 (fun (x : D) => match x with | D.agg [D.int IntKind.i64 a, D.int IntKind.i64 b, D.int IntKind.i64 c] => Option.map (fun (_ : Unit) => D.agg []) ((fun (x : Id3) => if x ∈ seenI T_1 V then some () else none) (a, b, c)) | _ => none) (↑(List.length (seenI T_1 V)) : Int) false)), (4, En.mk 0 (some 4) (Obj.map 41 f4_1 c4_1 false))])) = (bodyFN [] [] [(1, loopHook (kpF 27 1) gMk1)] 27 [.ref 0 0 0] (nodT (plM T) f2 f3 f4 c1 c2 c3 c4 z2 false)) post := by kernel_rfl
def hMark : KF1 := fun ps R post => ∃ T V f4 c4 z2, ps = [.ref 0 0 0] ∧ R = nodT (plM T) (inM V) noM f4 (T.length : Int) (V.length : Int) 0 c4 z2 false ∧ (T.length ≤ 1000000 ∧ Uq T ∧ V.Nodup) ∧
  post (.tup [], nodT (plM T) (inM V) (inM (seenI T V)) f4 (T.length : Int) (V.length : Int) ((seenI T V).length : Int) c4 true false)
/-! rising -/
/-- How two ids, as data, stand to one another. -/
def cfX : D → D → Int
  | .agg [.int .i64 a, .int .i64 b, .int .i64 c], .agg [.int .i64 a', .int .i64 b', .int .i64 c'] => cmpId a b c a' b' c'
  | _, _ => 0
abbrev rs3 (T : List Pl) (f2 f3 f4 g : D → Option D) (e : Option (D × D)) (out : List Id3) (n : Nat) (c1 c2 c3 c4 : Int) (z2 : Bool) : S :=
  ⟨27, [(0, .ref 0 0 0), (3, .sl 5 0 n), (15, .ref 6 0 0)], nodT (plM T) f2 f3 f4 c1 c2 c3 c4 z2 true ++ [(5, ⟨0, none, .arr 41 false (out.map ixD)⟩)] ++ itE 6 g e⟩
def gRs3 : S → K (PX × S) := fun s post => ∃ T V f2 f4 c1 c2 c4 z2, s = rs3 T f2 (inM V) f4 (inM V) none [] 0 c1 c2 (V.length : Int) c4 z2 ∧ (V.length ≤ 1000000 ∧ V.Nodup) ∧
  ∀ out : List Id3, out.Perm V → post (.exit 0, ⟨27, [(0, .ref 0 0 0), (3, .sl 5 0 out.length)], nodT (plM T) f2 (inM V) f4 c1 c2 (V.length : Int) c4 z2 true ++ [(5, ⟨0, none, .arr 41 false (out.map ixD)⟩)]⟩)
theorem vcRs3 (T : List Pl) (f2 f3 f4 g : D → Option D) (e : Option (D × D)) (out : List Id3) (n : Nat) (c1 c2 c3 c4 : Int) (z2 : Bool) (post : PX × S → Prop) : ((∀ (k x : D), g k = some x → bif isD PR 41 k then bif isD PR 62 x then bif Nat.ble n (List.length (List.map ixD out)) && roomOk (n + List.length [D.agg [D.int IntKind.i64 (D.iVal (D.cAt k 0)), D.int IntKind.i64 (D.iVal (D.cAt k 1)), D.int IntKind.i64 (D.iVal (D.cAt k 2))]]) 24 then post (PX.normal, S.mk 27 [(0, P.ref 0 0 0), (3, P.sl 5 0 (n + List.length [D.agg [D.int IntKind.i64 (D.iVal (D.cAt k 0)), D.int IntKind.i64 (D.iVal (D.cAt k 1)), D.int IntKind.i64 (D.iVal (D.cAt k 2))]])), (15, P.ref 6 0 0)] [(0, En.mk 0 (some 0) (Obj.box 61 [P.mp 1 0, P.mp 2 0, P.mp 3 0, P.mp 4 0])), (1, En.mk 0 (some 1) (Obj.map 41 (fun (x : D) => match x with | D.agg [D.int IntKind.i64 a, D.int IntKind.i64 b, D.int IntKind.i64 c] => Option.map plD (atPl T (a, b, c)) | _ => none) c1 false)), (2, En.mk 0 (some 2) (Obj.map 41 f2 c2 z2)), (3, En.mk 0 (some 3) (Obj.map 41 f3 c3 true)), (4, En.mk 0 (some 4) (Obj.map 41 f4 c4 false)), (5, En.mk 0 none (Obj.arr 41 false (List.take n (List.map ixD out) ++ [D.agg [D.int IntKind.i64 (D.iVal (D.cAt k 0)), D.int IntKind.i64 (D.iVal (D.cAt k 1)), D.int IntKind.i64 (D.iVal (D.cAt k 2))]]))), (6, En.mk 0 none (Obj.iter 41 62 (fun (k' : D) => bif D.eqB (D.agg [D.int IntKind.i64 (D.iVal (D.cAt k 0)), D.int IntKind.i64 (D.iVal (D.cAt k (0 + 1))), D.int IntKind.i64 (D.iVal (D.cAt k (0 + 1 + 1)))]) k' then none else g k') (some (D.agg [D.int IntKind.i64 (D.iVal (D.cAt k 0)), D.int IntKind.i64 (D.iVal (D.cAt k 1)), D.int IntKind.i64 (D.iVal (D.cAt k 2))], D.agg []))))]) else False else False else False) ∧ ((∀ (k : D), g k = none) → post (PX.exit 0, S.mk 27 [(0, P.ref 0 0 0), (3, P.sl 5 0 n)] [(0, En.mk 0 (some 0) (Obj.box 61 [P.mp 1 0, P.mp 2 0, P.mp 3 0, P.mp 4 0])), (1, En.mk 0 (some 1) (Obj.map 41 (fun (x : D) => match x with | D.agg [D.int IntKind.i64 a, D.int IntKind.i64 b, D.int IntKind.i64 c] => Option.map plD (atPl T (a, b, c)) | _ => none) c1 false)), (2, En.mk 0 (some 2) (Obj.map 41 f2 c2 z2)), (3, En.mk 0 (some 3) (Obj.map 41 f3 c3 true)), (4, En.mk 0 (some 4) (Obj.map 41 f4 c4 false)), (5, En.mk 0 none (Obj.arr 41 false (List.map ixD out)))]))) = (roundLN [] [] [] 50 3 (rs3 T f2 f3 f4 g e out n c1 c2 c3 c4 z2)) post := by kernel_rfl
theorem vcRs (T : List Pl) (f2 f3 f4 : D → Option D) (c1 c2 c3 c4 : Int) (z2 z3 : Bool) (post : P × List (Nat × En) → Prop) : (bif decide ((0 : Int) ≤ (0 : Int) ∧ (0 : Int) ≤ c3 ∧ c3 ≤ (9223372036854775807 : Int) ∧ (↑24 : Int) * c3 ≤ (281474976710656 : Int)) then ∃ (T_1 : List Pl), ∃ (V : List Id3), ∃ (f2_1 : D → Option D), ∃ (f4_1 : D → Option D), ∃ (c1_1 : Int), ∃ (c2_1 : Int), ∃ (c4_1 : Int), ∃ (z2_1 : Bool), S.mk 27 [(0, P.ref 0 0 0), (3, P.sl 5 0 0), (15, P.ref 6 0 0)] [(0, En.mk 0 (some 0) (Obj.box 61 [P.mp 1 0, P.mp 2 0, P.mp 3 0, P.mp 4 0])), (1, En.mk 0 (some 1) (Obj.map 41 (fun (x : D) => match x with | D.agg [D.int IntKind.i64 a, D.int IntKind.i64 b, D.int IntKind.i64 c] => Option.map plD (atPl T (a, b, c)) | _ => none) c1 false)), (2, En.mk 0 (some 2) (Obj.map 41 f2 c2 z2)), (3, En.mk 0 (some 3) (Obj.map 41 f3 c3 true)), (4, En.mk 0 (some 4) (Obj.map 41 f4 c4 false)), (5, En.mk 0 none (Obj.arr 41 false [])), (6, En.mk 0 none (Obj.iter 41 62 f3 none))] = S.mk 27 [(0, P.ref 0 0 0), (3, P.sl 5 0 0), (15, P.ref 6 0 0)] [(0, En.mk 0 (some 0) (Obj.box 61 [P.mp 1 0, P.mp 2 0, P.mp 3 0, P.mp 4 0])), (1, En.mk 0 (some 1) (Obj.map 41 (fun (x : D) => match x with | D.agg [D.int IntKind.i64 a, D.int IntKind.i64 b, D.int IntKind.i64 c] => Option.map plD (atPl T_1 (a, b, c)) | _ => none) c1_1 false)), (2, En.mk 0 (some 2) (Obj.map 41 f2_1 c2_1 z2_1)), (3, En.mk 0 (some 3) (Obj.map 41 (fun (x : D) => match x with | D.agg [D.int IntKind.i64 a, D.int IntKind.i64 b, D.int IntKind.i64 c] => Option.map (fun (_ : Unit) => D.agg []) ((fun (x : Id3) => if x ∈ V then some () else none) (a, b, c)) | _ => none) (↑(List.length V) : Int) true)), (4, En.mk 0 (some 4) (Obj.map 41 f4_1 c4_1 false)), (5, En.mk 0 none (Obj.arr 41 false [])), (6, En.mk 0 none (Obj.iter 41 62 (fun (x : D) => match x with | D.agg [D.int IntKind.i64 a, D.int IntKind.i64 b, D.int IntKind.i64 c] => Option.map (fun (_ : Unit) => D.agg []) ((fun (x : Id3) => if x ∈ V then some () else none) (a, b, c)) | _ => none) none))] ∧ (List.length V ≤ 1000000 ∧ List.Nodup V) ∧ ∀ (out : List Id3), List.Perm out V → ∃ (es : List D), [P.sl 0 0 (List.length out), P.fn 68 []] = [P.sl 0 0 (List.length es), P.fn 68 []] ∧ [(0, En.mk 0 (some 0) (Obj.arr 41 false (List.map ixD out)))] = [(0, En.mk 0 (some 0) (Obj.arr 41 false es))] ∧ CmpOn PR kp0 (68 : FuncId) es cfX ∧ ∀ (es' : List D), List.Perm es' es → List.Pairwise (fun (a b : D) => ¬cfX b a < (0 : Int)) es' → post (P.sl 5 0 (List.length out), [(0, En.mk 0 (some 0) (Obj.box 61 [P.mp 1 0, P.mp 2 0, P.mp 3 0, P.mp 4 0])), (1, En.mk 0 (some 1) (Obj.map 41 (fun (x : D) => match x with | D.agg [D.int IntKind.i64 a, D.int IntKind.i64 b, D.int IntKind.i64 c] => Option.map plD (atPl T_1 (a, b, c)) | _ => none) c1_1 false)), (2, En.mk 0 (some 2) (Obj.map 41 f2_1 c2_1 z2_1)), (3, En.mk 0 (some 3) (Obj.map 41 (fun (x : D) => match x with | D.agg [D.int IntKind.i64 a, D.int IntKind.i64 b, D.int IntKind.i64 c] => Option.map (fun (_ : Unit) => D.agg []) ((fun (x : Id3) => if x ∈ V then some () else none) (a, b, c)) | _ => none) (↑(List.length V) : Int) true)), (4, En.mk 0 (some 4) (Obj.map 41 f4_1 c4_1 false)), (5, En.mk 0 none (Obj.arr 41 false es'))]) else False) = (bodyFN [(67, hSortA 68 cfX 41)] [] [(3, loopHook (kpF 50 3) gRs3)] 50 [.ref 0 0 0] (nodT (plM T) f2 f3 f4 c1 c2 c3 c4 z2 z3)) post := by kernel_rfl
def hRising : KF1 := fun ps R post => ∃ T V f2 f4 c1 c2 c4 z2 z3, ps = [.ref 0 0 0] ∧ R = nodT (plM T) f2 (inM V) f4 c1 c2 (V.length : Int) c4 z2 z3 ∧ (V.length ≤ 1000000 ∧ V.Nodup) ∧
  post (.sl 5 0 V.length, nodT (plM T) f2 (inM V) f4 c1 c2 (V.length : Int) c4 z2 true ++ [(5, ⟨0, none, .arr 41 false ((sortI ltX V).map ixD)⟩)])
end Pi

/- Tree: mark, rising. -/
namespace Pi
open Go Go.Proofs
set_option maxRecDepth 100000
theorem inM_some {L : List Id3} {k v : D} (h : inM L k = some v) : ∃ x ∈ L, k = ixD x ∧ v = .agg [] := by
  unfold inM mpD at h
  split at h
  · rename_i a b c
    by_cases hx : (a, b, c) ∈ L
    · simp only [if_pos hx, Option.map_some, Option.some.injEq] at h
      exact ⟨_, hx, rfl, h.symm⟩
    · simp only [if_neg hx, Option.map_none] at h
      cases h
  · cases h
theorem inM_none {L : List Id3} (h : ∀ k, inM L k = none) : L = [] := by
  cases L with
  | nil => rfl
  | cons x r =>
    have := h (ixD x)
    rw [inM_id] at this
    simp at this
theorem inM_ext {a b : List Id3} (h : ∀ z, z ∈ a ↔ z ∈ b) : inM a = inM b := by
  have : (fun x => if x ∈ a then some () else none) = (fun x : Id3 => if x ∈ b then some () else none) := by
    funext x
    by_cases hx : x ∈ a
    · rw [if_pos hx, if_pos ((h x).1 hx)]
    · rw [if_neg hx, if_neg (fun hb => hx ((h x).2 hb))]
  unfold inM
  rw [this]
theorem inM_del {L : List Id3} (hn : L.Nodup) (x : Id3) : delD (ixD x) (inM L) = inM (L.erase x) := by
  funext d
  cases hd : D.eqB (ixD x) d with
  | true =>
    have := (D.eqB_iff _ _).1 hd
    subst this
    rw [delD_same, inM_id, if_neg (fun h => (hn.mem_erase_iff.1 h).1 rfl)]
    rfl
  | false =>
    have hne : ixD x ≠ d := fun e => by rw [(D.eqB_iff _ _).2 e] at hd; cases hd
    rw [delD_ne _ hne]
    unfold inM mpD
    split
    · rename_i a b c
      have hx : (a, b, c) ≠ x := fun e => hne (by rw [← e]; rfl)
      simp only [hn.mem_erase_iff]
      by_cases h : (a, b, c) ∈ L
      · simp [h, hx]
      · simp [h]
    · rfl
theorem inM_nil : inM [] = noM := by
  funext d
  show mpD _ _ d = none
  unfold mpD
  split <;> rfl
theorem isNo : isD PR 62 (.agg []) = true := by kernel_rfl
theorem drop_cons {α : Type} {l : List α} {k : Nat} (h : k < l.length) (d : α) : l.drop k = l.getD k d :: l.drop (k + 1) := by
  rw [List.drop_eq_getElem_cons h, List.getD_eq_getElem?_getD, List.getElem?_eq_getElem h]
  rfl
theorem drM : PR.follows .mixedOrders = true := by kernel_rfl
section
variable {X : XF} {w0 : World} (hX : CFOK PR w0 X.cf)
include hX
theorem lnMk6 : LN w0 27 6 (loopHook (kpF 27 6) gMk6) := LN.par hX (H := []) (HN := []) (hk := []) drM (by kernel_rfl) (by kernel_rfl) .nil .nil .nil
  (A := List Pl × (D → Option D) × (D → Option D) × (D → Option D) × Option (D × D) × List Id3 × List Id3 × Int × Int) (B := List Id3 × Int)
  (fun ⟨T, f2, f4, g, e, _, w, c2, c4⟩ b => mk6 T f2 (inM b.1) f4 g e w w.length b.2 (T.length : Int) c2 (b.1.length : Int) c4)
  (fun ⟨_, _, _, _, _, V, w, _, _⟩ b => w.length ≤ 1000000 ∧ 0 ≤ b.2 ∧ b.2 ≤ w.length ∧ mkF b.1 (w.drop b.2.toNat) = mkF V w)
  (fun ⟨_, _, _, _, _, _, w, _, _⟩ b => (w.length - b.2).toNat)
  (fun ⟨T, f2, f4, g, e, V, w, c2, c4⟩ x => x = (.exit 1, mk1 T f2 (inM (mkF V w)) f4 g e (T.length : Int) c2 ((mkF V w).length : Int) c4) ∨ x = (.exit 2, mk1 T f2 (inM (mkF V w)) f4 g e (T.length : Int) c2 ((mkF V w).length : Int) c4))
  (by
    rintro ⟨T, f2, f4, g, e, V, w, c2, c4⟩ ⟨V', k⟩ ⟨hm, h0, hk, hv⟩
    dsimp only at *
    rw [← vcMk6]
    simp only [List.length_map]
    refine condP (fun h => ?_) fun h => ?_
    · have hk' : k.toNat < w.length := by omega
      rw [ix_nth hk']
      rw [drop_cons hk' (0, 0, 0)] at hv
      generalize w.getD k.toNat (0, 0, 0) = u at hv
      refine oblP ⟨h0, by omega⟩ (oblI (by simpa using hk') (oblI (isIx u) (oblI ?_ (condI (fun hs => ?_) fun hs => oblI (incI (by omega) (by omega)) ?_))))
      · show isD PR 62 (getO (inM V' (ixD u)) _) = true
        rw [inM_id]
        by_cases hu : u ∈ V' <;> simp only [hu, if_true, if_false, Option.map_some, Option.map_none] <;> exact isNo
      · have hu : u ∈ V' := by
          have : (inM V' (ixD u)).isSome = true := hs
          rw [inM_id] at this
          by_cases hu : u ∈ V'
          · exact hu
          · simp [hu] at this
        left
        rw [← hv, mkF, if_pos hu]
        rfl
      · have hu : u ∉ V' := fun hu => by
          have : (inM V' (ixD u)).isSome = false := hs
          rw [inM_id] at this
          simp [hu] at this
        rw [mkF, if_neg hu] at hv
        have e1 : lvS V' u = V' ++ [u] := by unfold lvS; rw [if_neg hu]
        refine ⟨((w.length : Int) - (k + 1)).toNat, by omega, (V' ++ [u], k + 1), ?_, ⟨hm, by simp only; omega, by simp only; omega, ?_⟩, rfl⟩
        · have a1 := inM_add (V := V') (x := u)
          have a2 := inM_len V' u
          rw [e1] at a1 a2
          show _ = mk6 T f2 (inM (V' ++ [u])) f4 g e w w.length (k + 1) (T.length : Int) c2 ((V' ++ [u]).length : Int) c4
          rw [← a1, ← a2]
          rfl
        · simp only
          rw [show (k + 1).toNat = k.toNat + 1 by omega]
          exact hv
    · have : k.toNat = w.length := by omega
      rw [this, List.drop_length, mkF] at hv
      subst hv
      right
      rfl)
  (by
    rintro s post ⟨T, f2, f4, g, e, V, w, c2, c4, rfl, ⟨hm, _⟩, h1, h2⟩
    refine ⟨(T, f2, f4, g, e, V, w, c2, c4), (V, 0), rfl, ⟨hm, by simp, by simp, by simp⟩, ?_⟩
    rintro x (rfl | rfl)
    · exact h1
    · exact h2)
theorem lnMk1 : LN w0 27 1 (loopHook (kpF 27 1) gMk1) := LN.par hX (H := [(49, hWay)]) (HN := []) (hk := [(6, loopHook (kpF 27 6) gMk6)]) drM (by kernel_rfl) (by kernel_rfl) (.cons okWay .nil) .nil (.cons (lnMk6 hX) .nil)
  (A := List Pl × List Id3 × (D → Option D) × Int) (B := List Id3 × List Id3 × List Id3 × Option (D × D))
  (fun ⟨T, V, f4, c4⟩ ⟨S, L, _, e⟩ => mk1 T (inM V) (inM S) f4 (inM L) e (T.length : Int) (V.length : Int) (S.length : Int) c4)
  (fun ⟨T, V, _, _⟩ ⟨S, L, Dn, _⟩ => T.length ≤ 1000000 ∧ Uq T ∧ L.Nodup ∧ (∀ z, z ∈ V ↔ z ∈ Dn ∨ z ∈ L) ∧ UpC T S ∧ S.Nodup ∧ ∀ z, z ∈ S ↔ marked T Dn z = true)
  (fun _ b => b.2.1.length)
  (fun ⟨T, V, f4, c4⟩ x => x = (.exit 0, ⟨49, [(0, .ref 0 0 0)], nodT (plM T) (inM V) (inM (seenI T V)) f4 (T.length : Int) (V.length : Int) ((seenI T V).length : Int) c4 true false⟩))
  (by
    rintro ⟨T, V, f4, c4⟩ ⟨S, L, Dn, e⟩ ⟨hm, hu, hn, hV, hS, hSn, hSm⟩
    dsimp only at *
    rw [← vcMk1]
    have hSl : S.length ≤ T.length := by
      have : S ⊆ T.map (·.1) := fun z hz => by
        obtain ⟨p, hp⟩ := marked_at ((hSm z).1 hz)
        obtain ⟨h2, h3⟩ := atPl_mem hp
        exact List.mem_map.2 ⟨p, h2, h3⟩
      simpa using hSn.length_le_of_subset this
    refine ⟨fun k v hk => ?_, fun hno => ?_⟩
    · obtain ⟨x, hx, rfl, rfl⟩ := inM_some hk
      have hdel := inM_del hn x
      have hlen : (L.erase x).length < L.length := by
        rw [List.length_erase_of_mem hx]
        have : 0 < L.length := List.length_pos_of_mem hx
        omega
      have hV' : ∀ z, z ∈ V ↔ z ∈ Dn ++ [x] ∨ z ∈ L.erase x := fun z => by
        rw [hV z, List.mem_append, List.mem_singleton, hn.mem_erase_iff]
        constructor
        · rintro (h | h)
          · exact .inl (.inl h)
          · by_cases hz : z = x
            · exact .inl (.inr hz)
            · exact .inr ⟨hz, h⟩
        · rintro ((h | h) | h)
          · exact .inl h
          · exact .inr (h ▸ hx)
          · exact .inr h.2
      have hmk : ∀ z, marked T (Dn ++ [x]) z = true ↔ marked T Dn z = true ∨ ∃ w, Up T x w ∧ z ∈ w := fun z => by
        rw [marked_iff, marked_iff]
        constructor
        · rintro ⟨y, hy, h⟩
          rcases List.mem_append.1 hy with hy | hy
          · exact .inl ⟨y, hy, h⟩
          · rw [List.mem_singleton] at hy; subst hy; exact .inr h
        · rintro (⟨y, hy, h⟩ | h)
          · exact ⟨y, List.mem_append_left _ hy, h⟩
          · exact ⟨x, by simp, h⟩
      have next : ∀ S' : List Id3, S' = markR T S x → ∃ m, m < L.length ∧ ∃ b' : List Id3 × List Id3 × List Id3 × Option (D × D), (mk1 T (inM V) (inM S') f4 (delD (ixD x) (inM L)) (some (ixD x, .agg [])) (T.length : Int) (V.length : Int) (S'.length : Int) c4 : Pi.S) = mk1 T (inM V) (inM b'.1) f4 (inM b'.2.1) b'.2.2.2 (T.length : Int) (V.length : Int) (b'.1.length : Int) c4 ∧
          (T.length ≤ 1000000 ∧ Uq T ∧ b'.2.1.Nodup ∧ (∀ z, z ∈ V ↔ z ∈ b'.2.2.1 ∨ z ∈ b'.2.1) ∧ UpC T b'.1 ∧ b'.1.Nodup ∧ ∀ z, z ∈ b'.1 ↔ marked T b'.2.2.1 z = true) ∧ m = b'.2.1.length := fun S' hS' => by
        obtain ⟨g1, g2, g3⟩ := markR_ok x hS hSn
        rw [← hS'] at g1 g2 g3
        refine ⟨_, hlen, (S', L.erase x, Dn ++ [x], some (ixD x, .agg [])), by rw [hdel], ⟨hm, hu, hn.erase _, hV', g1, g2, fun z => ?_⟩, rfl⟩
        rw [g3, hmk, hSm]
      refine oblI (isIx x) (oblI isNo ⟨T, x, inM V, inM S, f4, _, _, c4, true, false, rfl, rfl, hm, fun w hw => ?_, fun hw => ?_⟩)
      · have hup := wy_iff.1 hw
        have := next (mkF S w) (by unfold markR; rw [hw])
        exact ⟨T, inM V, f4, _, _, S, w, _, c4, rfl, ⟨by have := hup.len; omega, by omega⟩, this, this⟩
      · exact next S (by unfold markR; rw [hw])
    · have := inM_none hno
      subst this
      have hVD : ∀ z, z ∈ V ↔ z ∈ Dn := fun z => by rw [hV z]; simp
      have hp := seen_perm hu hSn (live := V) fun z => by rw [hSm, marked_ext hVD]
      show _ = _
      rw [← inM_ext (a := S) (b := seenI T V) fun z => hp.mem_iff, ← hp.length_eq]
      rfl)
  (by
    rintro s post ⟨T, V, f4, c4, rfl, ⟨hm, hu, hn⟩, hp⟩
    refine ⟨(T, V, f4, c4), ([], V, [], none), ?_, ⟨hm, hu, hn, fun z => by simp, fun z hz => by simp at hz, by simp, fun z => by simp [marked]⟩, ?_⟩
    · show _ = mk1 T (inM V) (inM []) f4 (inM V) none _ _ _ c4
      rw [inM_nil]
      rfl
    · rintro x rfl
      exact hp)
theorem ndMark : ND w0 27 hMark := ND.mk hX (H := []) (HN := []) (hk := [(1, loopHook (kpF 27 1) gMk1)]) drM (by kernel_rfl) .nil .nil (.cons (lnMk1 hX) .nil) (by
  intro ps R post hh
  obtain ⟨T, V, f4, c4, z2, rfl, rfl, hc, hp⟩ := hh
  rw [← vcMark]
  exact ⟨T, V, f4, c4, rfl, hc, hp⟩)
theorem lnRs3 : LN w0 50 3 (loopHook (kpF 50 3) gRs3) := LN.par hX (H := []) (HN := []) (hk := []) drM (by kernel_rfl) (by kernel_rfl) .nil .nil .nil
  (A := List Pl × List Id3 × (D → Option D) × (D → Option D) × Int × Int × Int × Bool) (B := List Id3 × List Id3 × Option (D × D))
  (fun ⟨T, V, f2, f4, c1, c2, c4, z2⟩ ⟨out, L, e⟩ => rs3 T f2 (inM V) f4 (inM L) e out out.length c1 c2 (V.length : Int) c4 z2)
  (fun ⟨_, V, _⟩ ⟨out, L, _⟩ => V.length ≤ 1000000 ∧ L.Nodup ∧ (out ++ L).Perm V)
  (fun _ b => b.2.1.length)
  (fun ⟨T, V, f2, f4, c1, c2, c4, z2⟩ x => ∃ out : List Id3, out.Perm V ∧ x = (.exit 0, ⟨27, [(0, .ref 0 0 0), (3, .sl 5 0 out.length)], nodT (plM T) f2 (inM V) f4 c1 c2 (V.length : Int) c4 z2 true ++ [(5, ⟨0, none, .arr 41 false (out.map ixD)⟩)]⟩))
  (by
    rintro ⟨T, V, f2, f4, c1, c2, c4, z2⟩ ⟨out, L, e⟩ ⟨hm, hn, hp⟩
    dsimp only at *
    rw [← vcRs3]
    have hl := hp.length_eq
    rw [List.length_append] at hl
    refine ⟨fun k v hk => ?_, fun hno => ?_⟩
    · obtain ⟨x, hx, rfl, rfl⟩ := inM_some hk
      have hdel := inM_del hn x
      have h0 : 0 < L.length := List.length_pos_of_mem hx
      have hlen : (L.erase x).length < L.length := by
        rw [List.length_erase_of_mem hx]
        omega
      refine oblI (isIx x) (oblI isNo (oblI ?_ ⟨_, hlen, (out ++ [x], L.erase x, some (ixD x, .agg [])), ?_, ⟨hm, hn.erase _, ?_⟩, rfl⟩))
      · rw [List.length_map]
        simp [roomOk]
        omega
      · show _ = rs3 T f2 (inM V) f4 (inM (L.erase x)) (some (ixD x, .agg [])) (out ++ [x]) (out ++ [x]).length c1 c2 (V.length : Int) c4 z2
        rw [take_ix, ← hdel]
        simp only [rs3, List.map_append, List.length_append, List.map_cons, List.map_nil]
        rfl
      · simp only
        refine List.Perm.trans ?_ hp
        rw [List.append_assoc]
        exact (List.perm_cons_erase hx).symm.append_left out
    · have := inM_none hno
      subst this
      exact ⟨out, by simpa using hp, rfl⟩)
  (by
    rintro s post ⟨T, V, f2, f4, c1, c2, c4, z2, rfl, ⟨hm, hn⟩, hp⟩
    refine ⟨(T, V, f2, f4, c1, c2, c4, z2), ([], V, none), rfl, ⟨hm, hn, by simp⟩, ?_⟩
    rintro x ⟨out, h1, rfl⟩
    exact hp out h1)
omit hX in
theorem cfX_ix (x y : Id3) : cfX (ixD x) (ixD y) = cmpId x.1 x.2.1 x.2.2 y.1 y.2.1 y.2.2 := rfl
omit hX in
theorem cfX_lt (x y : Id3) : cfX (ixD x) (ixD y) < 0 ↔ ltX x y = true := cmpX_lt x y
omit hX in
theorem cmpOnX (l : List Id3) (hl : l.length ≤ 1000000) : CmpOn PR kp0 68 (l.map ixD) cfX where
  fn := ⟨_, Tryz.func68, by kernel_rfl, by kernel_rfl⟩
  ag := fun d hd => by
    obtain ⟨x, _, rfl⟩ := List.mem_map.1 hd
    exact ⟨_, rfl⟩
  len := by simp; omega
  run := fun a ha b hb => by
    obtain ⟨x, _, rfl⟩ := List.mem_map.1 ha
    obtain ⟨y, _, rfl⟩ := List.mem_map.1 hb
    exact FC.cmps fcCmpId ⟨_, _, _, _, _, _, rfl, rfl, rfl⟩
  irr := fun a ha => by
    obtain ⟨x, _, rfl⟩ := List.mem_map.1 ha
    rw [cfX_lt, lin_X.irr]
    simp
  tr := fun a ha b hb c hc => by
    obtain ⟨x, _, rfl⟩ := List.mem_map.1 ha
    obtain ⟨y, _, rfl⟩ := List.mem_map.1 hb
    obtain ⟨z, _, rfl⟩ := List.mem_map.1 hc
    rw [cfX_lt, cfX_lt, cfX_lt]
    exact lin_X.tr x y z
  ntr := fun a ha b hb c hc => by
    obtain ⟨x, _, rfl⟩ := List.mem_map.1 ha
    obtain ⟨y, _, rfl⟩ := List.mem_map.1 hb
    obtain ⟨z, _, rfl⟩ := List.mem_map.1 hc
    rw [cfX_lt, cfX_lt, cfX_lt]
    intro h1 h2
    simpa using lin_X.ntr (by simpa using h1) (by simpa using h2)
omit hX in
theorem okSortId : FD X 67 (hSortA 68 cfX 41) := FD.ofX Tryz.func67 (by kernel_rfl) (by kernel_rfl) fun ps R post h => hSort_told (hSortA_hSort h)
omit hX in
theorem unmap {α β : Type} (f : α → β) (g : β → α) (hg : ∀ x, g (f x) = x) {l : List α} {l' : List β} (h : l'.Perm (l.map f)) : ∃ l2 : List α, l' = l2.map f ∧ l2.Perm l := by
  refine ⟨l'.map g, ?_, ?_⟩
  · rw [List.map_map]
    refine (List.map_id l').symm.trans (List.map_congr_left fun b hb => ?_)
    obtain ⟨a, _, rfl⟩ := List.mem_map.1 (h.mem_iff.1 hb)
    simp [hg]
  · have := h.map g
    rw [List.map_map] at this
    rwa [show (g ∘ f) = id from funext hg, List.map_id] at this
/-- An id of its data. -/
def unIx : D → Id3
  | .agg [.int .i64 a, .int .i64 b, .int .i64 c] => (a, b, c)
  | _ => (0, 0, 0)
theorem ndRising : ND w0 50 hRising := ND.mk hX (H := [(67, hSortA 68 cfX 41)]) (HN := []) (hk := [(3, loopHook (kpF 50 3) gRs3)]) drM (by kernel_rfl) (.cons okSortId .nil) .nil (.cons (lnRs3 hX) .nil) (by
  intro ps R post hh
  obtain ⟨T, V, f2, f4, c1, c2, c4, z2, z3, rfl, rfl, ⟨hm, hn⟩, hp⟩ := hh
  rw [← vcRs]
  refine oblI (decT ⟨by omega, by omega, by omega, by omega⟩) ⟨T, V, f2, f4, c1, c2, c4, z2, rfl, ⟨hm, hn⟩, fun out ho => ⟨out.map ixD, by rw [List.length_map], rfl, cmpOnX out (by rw [ho.length_eq]; exact hm), fun es' h1 h2 => ?_⟩⟩
  obtain ⟨l2, rfl, h3⟩ := unmap ixD unIx (fun _ => rfl) h1
  rw [List.pairwise_map] at h2
  have e := sortI_of lin_X (h3.trans ho) (h2.imp fun {a b} h => by rw [cfX_lt] at h; simpa using h)
  rw [e, ho.length_eq]
  exact hp)
end
end Pi

/- Tree: name, path: what their runs ask. -/
namespace Pi
open Go Go.Proofs
set_option maxRecDepth 100000
set_option maxHeartbeats 0
/-! name -/
abbrev nm2 (L : List Id3) (n : Nat) (k : Int) (h : D → Option D) (c : Int) (T : List Pl) (f2 f3 f4 : D → Option D) (c1 c2 c3 c4 : Int) (z2 : Bool) : S :=
  ⟨56, [(0, .ref 0 0 0), (2, .mp 5 0), (9, .sl 6 0 n), (10, iD n), (11, iD k)], nodT (plM T) f2 f3 f4 c1 c2 c3 c4 z2 true ++ [(5, ⟨0, none, .map 86 h c false⟩), (6, ⟨0, none, .arr 41 false (L.map ixD)⟩)]⟩
/-- What the nodes are seen as, as data. -/
abbrev asM (T : List Pl) (V L : List Id3) : D → Option D := mpD D.str (fun x => if x ∈ L then some (nmX T V x) else none)
def gNm2 : S → K (PX × S) := fun s post => ∃ T V f2 f3 c1 c2 c3 z2, s = nm2 (sortI ltX (seenI T V)) (seenI T V).length 0 noM 0 T f2 f3 noM c1 c2 c3 0 z2 ∧ (T.length ≤ 1000000 ∧ Rt T) ∧
  post (.exit 0, ⟨56, [(0, .ref 0 0 0)], nodT (plM T) f2 f3 (asM T V (seenI T V)) c1 c2 c3 ((seenI T V).length : Int) z2 true⟩)
theorem vcNm2 (L : List Id3) (n : Nat) (k : Int) (h : D → Option D) (c : Int) (T : List Pl) (f2 f3 f4 : D → Option D) (c1 c2 c3 c4 : Int) (z2 : Bool) (post : PX × S → Prop) : (bif decide (k < (↑n : Int)) then bif decide ((0 : Int) ≤ k ∧ k < (↑n : Int)) then bif decide (Int.toNat k < List.length (List.map ixD L)) then bif isD PR (41 : TypeId) (D.nth (List.map ixD L) (Int.toNat k)) then bif isD PR 47 (getO (plM T (D.agg [D.int IntKind.i64 (D.iVal (D.cAt (D.nth (List.map ixD L) (Int.toNat k)) 0)), D.int IntKind.i64 (D.iVal (D.cAt (D.nth (List.map ixD L) (Int.toNat k)) 1)), D.int IntKind.i64 (D.iVal (D.cAt (D.nth (List.map ixD L) (Int.toNat k)) 2))])) (D.agg [D.int IntKind.i64 (0 : Int), D.int IntKind.i64 (0 : Int), D.int IntKind.i64 (0 : Int), D.int IntKind.i64 (0 : Int), D.int IntKind.i64 (0 : Int), D.int IntKind.i64 (0 : Int), D.str [], D.bool false])) then bif isD PR 3 (getO (h (D.agg [D.int IntKind.i64 (D.iVal (D.cAt (getO (plM T (D.agg [D.int IntKind.i64 (D.iVal (D.cAt (D.nth (List.map ixD L) (Int.toNat k)) 0)), D.int IntKind.i64 (D.iVal (D.cAt (D.nth (List.map ixD L) (Int.toNat k)) 1)), D.int IntKind.i64 (D.iVal (D.cAt (D.nth (List.map ixD L) (Int.toNat k)) 2))])) (D.agg [D.int IntKind.i64 (0 : Int), D.int IntKind.i64 (0 : Int), D.int IntKind.i64 (0 : Int), D.int IntKind.i64 (0 : Int), D.int IntKind.i64 (0 : Int), D.int IntKind.i64 (0 : Int), D.str [], D.bool false])) 3)), D.int IntKind.i64 (D.iVal (D.cAt (getO (plM T (D.agg [D.int IntKind.i64 (D.iVal (D.cAt (D.nth (List.map ixD L) (Int.toNat k)) 0)), D.int IntKind.i64 (D.iVal (D.cAt (D.nth (List.map ixD L) (Int.toNat k)) 1)), D.int IntKind.i64 (D.iVal (D.cAt (D.nth (List.map ixD L) (Int.toNat k)) 2))])) (D.agg [D.int IntKind.i64 (0 : Int), D.int IntKind.i64 (0 : Int), D.int IntKind.i64 (0 : Int), D.int IntKind.i64 (0 : Int), D.int IntKind.i64 (0 : Int), D.int IntKind.i64 (0 : Int), D.str [], D.bool false])) 4)), D.int IntKind.i64 (D.iVal (D.cAt (getO (plM T (D.agg [D.int IntKind.i64 (D.iVal (D.cAt (D.nth (List.map ixD L) (Int.toNat k)) 0)), D.int IntKind.i64 (D.iVal (D.cAt (D.nth (List.map ixD L) (Int.toNat k)) 1)), D.int IntKind.i64 (D.iVal (D.cAt (D.nth (List.map ixD L) (Int.toNat k)) 2))])) (D.agg [D.int IntKind.i64 (0 : Int), D.int IntKind.i64 (0 : Int), D.int IntKind.i64 (0 : Int), D.int IntKind.i64 (0 : Int), D.int IntKind.i64 (0 : Int), D.int IntKind.i64 (0 : Int), D.str [], D.bool false])) 5)), D.str (D.sVal (D.cAt (getO (plM T (D.agg [D.int IntKind.i64 (D.iVal (D.cAt (D.nth (List.map ixD L) (Int.toNat k)) 0)), D.int IntKind.i64 (D.iVal (D.cAt (D.nth (List.map ixD L) (Int.toNat k)) 1)), D.int IntKind.i64 (D.iVal (D.cAt (D.nth (List.map ixD L) (Int.toNat k)) 2))])) (D.agg [D.int IntKind.i64 (0 : Int), D.int IntKind.i64 (0 : Int), D.int IntKind.i64 (0 : Int), D.int IntKind.i64 (0 : Int), D.int IntKind.i64 (0 : Int), D.int IntKind.i64 (0 : Int), D.str [], D.bool false])) 6))])) (D.int IntKind.i64 (0 : Int))) then bif decide ((-9223372036854775808 : Int) ≤ D.iVal (getO (h (D.agg [D.int IntKind.i64 (D.iVal (D.cAt (getO (plM T (D.agg [D.int IntKind.i64 (D.iVal (D.cAt (D.nth (List.map ixD L) (Int.toNat k)) 0)), D.int IntKind.i64 (D.iVal (D.cAt (D.nth (List.map ixD L) (Int.toNat k)) 1)), D.int IntKind.i64 (D.iVal (D.cAt (D.nth (List.map ixD L) (Int.toNat k)) 2))])) (D.agg [D.int IntKind.i64 (0 : Int), D.int IntKind.i64 (0 : Int), D.int IntKind.i64 (0 : Int), D.int IntKind.i64 (0 : Int), D.int IntKind.i64 (0 : Int), D.int IntKind.i64 (0 : Int), D.str [], D.bool false])) 3)), D.int IntKind.i64 (D.iVal (D.cAt (getO (plM T (D.agg [D.int IntKind.i64 (D.iVal (D.cAt (D.nth (List.map ixD L) (Int.toNat k)) 0)), D.int IntKind.i64 (D.iVal (D.cAt (D.nth (List.map ixD L) (Int.toNat k)) 1)), D.int IntKind.i64 (D.iVal (D.cAt (D.nth (List.map ixD L) (Int.toNat k)) 2))])) (D.agg [D.int IntKind.i64 (0 : Int), D.int IntKind.i64 (0 : Int), D.int IntKind.i64 (0 : Int), D.int IntKind.i64 (0 : Int), D.int IntKind.i64 (0 : Int), D.int IntKind.i64 (0 : Int), D.str [], D.bool false])) 4)), D.int IntKind.i64 (D.iVal (D.cAt (getO (plM T (D.agg [D.int IntKind.i64 (D.iVal (D.cAt (D.nth (List.map ixD L) (Int.toNat k)) 0)), D.int IntKind.i64 (D.iVal (D.cAt (D.nth (List.map ixD L) (Int.toNat k)) 1)), D.int IntKind.i64 (D.iVal (D.cAt (D.nth (List.map ixD L) (Int.toNat k)) 2))])) (D.agg [D.int IntKind.i64 (0 : Int), D.int IntKind.i64 (0 : Int), D.int IntKind.i64 (0 : Int), D.int IntKind.i64 (0 : Int), D.int IntKind.i64 (0 : Int), D.int IntKind.i64 (0 : Int), D.str [], D.bool false])) 5)), D.str (D.sVal (D.cAt (getO (plM T (D.agg [D.int IntKind.i64 (D.iVal (D.cAt (D.nth (List.map ixD L) (Int.toNat k)) 0)), D.int IntKind.i64 (D.iVal (D.cAt (D.nth (List.map ixD L) (Int.toNat k)) 1)), D.int IntKind.i64 (D.iVal (D.cAt (D.nth (List.map ixD L) (Int.toNat k)) 2))])) (D.agg [D.int IntKind.i64 (0 : Int), D.int IntKind.i64 (0 : Int), D.int IntKind.i64 (0 : Int), D.int IntKind.i64 (0 : Int), D.int IntKind.i64 (0 : Int), D.int IntKind.i64 (0 : Int), D.str [], D.bool false])) 6))])) (D.int IntKind.i64 (0 : Int))) + (1 : Int) ∧ D.iVal (getO (h (D.agg [D.int IntKind.i64 (D.iVal (D.cAt (getO (plM T (D.agg [D.int IntKind.i64 (D.iVal (D.cAt (D.nth (List.map ixD L) (Int.toNat k)) 0)), D.int IntKind.i64 (D.iVal (D.cAt (D.nth (List.map ixD L) (Int.toNat k)) 1)), D.int IntKind.i64 (D.iVal (D.cAt (D.nth (List.map ixD L) (Int.toNat k)) 2))])) (D.agg [D.int IntKind.i64 (0 : Int), D.int IntKind.i64 (0 : Int), D.int IntKind.i64 (0 : Int), D.int IntKind.i64 (0 : Int), D.int IntKind.i64 (0 : Int), D.int IntKind.i64 (0 : Int), D.str [], D.bool false])) 3)), D.int IntKind.i64 (D.iVal (D.cAt (getO (plM T (D.agg [D.int IntKind.i64 (D.iVal (D.cAt (D.nth (List.map ixD L) (Int.toNat k)) 0)), D.int IntKind.i64 (D.iVal (D.cAt (D.nth (List.map ixD L) (Int.toNat k)) 1)), D.int IntKind.i64 (D.iVal (D.cAt (D.nth (List.map ixD L) (Int.toNat k)) 2))])) (D.agg [D.int IntKind.i64 (0 : Int), D.int IntKind.i64 (0 : Int), D.int IntKind.i64 (0 : Int), D.int IntKind.i64 (0 : Int), D.int IntKind.i64 (0 : Int), D.int IntKind.i64 (0 : Int), D.str [], D.bool false])) 4)), D.int IntKind.i64 (D.iVal (D.cAt (getO (plM T (D.agg [D.int IntKind.i64 (D.iVal (D.cAt (D.nth (List.map ixD L) (Int.toNat k)) 0)), D.int IntKind.i64 (D.iVal (D.cAt (D.nth (List.map ixD L) (Int.toNat k)) 1)), D.int IntKind.i64 (D.iVal (D.cAt (D.nth (List.map ixD L) (Int.toNat k)) 2))])) (D.agg [D.int IntKind.i64 (0 : Int), D.int IntKind.i64 (0 : Int), D.int IntKind.i64 (0 : Int), D.int IntKind.i64 (0 : Int), D.int IntKind.i64 (0 : Int), D.int IntKind.i64 (0 : Int), D.str [], D.bool false])) 5)), D.str (D.sVal (D.cAt (getO (plM T (D.agg [D.int IntKind.i64 (D.iVal (D.cAt (D.nth (List.map ixD L) (Int.toNat k)) 0)), D.int IntKind.i64 (D.iVal (D.cAt (D.nth (List.map ixD L) (Int.toNat k)) 1)), D.int IntKind.i64 (D.iVal (D.cAt (D.nth (List.map ixD L) (Int.toNat k)) 2))])) (D.agg [D.int IntKind.i64 (0 : Int), D.int IntKind.i64 (0 : Int), D.int IntKind.i64 (0 : Int), D.int IntKind.i64 (0 : Int), D.int IntKind.i64 (0 : Int), D.int IntKind.i64 (0 : Int), D.str [], D.bool false])) 6))])) (D.int IntKind.i64 (0 : Int))) + (1 : Int) ≤ (9223372036854775807 : Int)) then bif isD PR 3 (getO (updD (D.agg [D.int IntKind.i64 (D.iVal (D.cAt (getO (plM T (D.agg [D.int IntKind.i64 (D.iVal (D.cAt (D.nth (List.map ixD L) (Int.toNat k)) 0)), D.int IntKind.i64 (D.iVal (D.cAt (D.nth (List.map ixD L) (Int.toNat k)) 1)), D.int IntKind.i64 (D.iVal (D.cAt (D.nth (List.map ixD L) (Int.toNat k)) 2))])) (D.agg [D.int IntKind.i64 (0 : Int), D.int IntKind.i64 (0 : Int), D.int IntKind.i64 (0 : Int), D.int IntKind.i64 (0 : Int), D.int IntKind.i64 (0 : Int), D.int IntKind.i64 (0 : Int), D.str [], D.bool false])) 3)), D.int IntKind.i64 (D.iVal (D.cAt (getO (plM T (D.agg [D.int IntKind.i64 (D.iVal (D.cAt (D.nth (List.map ixD L) (Int.toNat k)) 0)), D.int IntKind.i64 (D.iVal (D.cAt (D.nth (List.map ixD L) (Int.toNat k)) 1)), D.int IntKind.i64 (D.iVal (D.cAt (D.nth (List.map ixD L) (Int.toNat k)) 2))])) (D.agg [D.int IntKind.i64 (0 : Int), D.int IntKind.i64 (0 : Int), D.int IntKind.i64 (0 : Int), D.int IntKind.i64 (0 : Int), D.int IntKind.i64 (0 : Int), D.int IntKind.i64 (0 : Int), D.str [], D.bool false])) 4)), D.int IntKind.i64 (D.iVal (D.cAt (getO (plM T (D.agg [D.int IntKind.i64 (D.iVal (D.cAt (D.nth (List.map ixD L) (Int.toNat k)) 0)), D.int IntKind.i64 (D.iVal (D.cAt (D.nth (List.map ixD L) (Int.toNat k)) 1)), D.int IntKind.i64 (D.iVal (D.cAt (D.nth (List.map ixD L) (Int.toNat k)) 2))])) (D.agg [D.int IntKind.i64 (0 : Int), D.int IntKind.i64 (0 : Int), D.int IntKind.i64 (0 : Int), D.int IntKind.i64 (0 : Int), D.int IntKind.i64 (0 : Int), D.int IntKind.i64 (0 : Int), D.str [], D.bool false])) 5)), D.str (D.sVal (D.cAt (getO (plM T (D.agg [D.int IntKind.i64 (D.iVal (D.cAt (D.nth (List.map ixD L) (Int.toNat k)) 0)), D.int IntKind.i64 (D.iVal (D.cAt (D.nth (List.map ixD L) (Int.toNat k)) 1)), D.int IntKind.i64 (D.iVal (D.cAt (D.nth (List.map ixD L) (Int.toNat k)) 2))])) (D.agg [D.int IntKind.i64 (0 : Int), D.int IntKind.i64 (0 : Int), D.int IntKind.i64 (0 : Int), D.int IntKind.i64 (0 : Int), D.int IntKind.i64 (0 : Int), D.int IntKind.i64 (0 : Int), D.str [], D.bool false])) 6))]) (D.int IntKind.i64 (D.iVal (getO (h (D.agg [D.int IntKind.i64 (D.iVal (D.cAt (getO (plM T (D.agg [D.int IntKind.i64 (D.iVal (D.cAt (D.nth (List.map ixD L) (Int.toNat k)) 0)), D.int IntKind.i64 (D.iVal (D.cAt (D.nth (List.map ixD L) (Int.toNat k)) 1)), D.int IntKind.i64 (D.iVal (D.cAt (D.nth (List.map ixD L) (Int.toNat k)) 2))])) (D.agg [D.int IntKind.i64 (0 : Int), D.int IntKind.i64 (0 : Int), D.int IntKind.i64 (0 : Int), D.int IntKind.i64 (0 : Int), D.int IntKind.i64 (0 : Int), D.int IntKind.i64 (0 : Int), D.str [], D.bool false])) 3)), D.int IntKind.i64 (D.iVal (D.cAt (getO (plM T (D.agg [D.int IntKind.i64 (D.iVal (D.cAt (D.nth (List.map ixD L) (Int.toNat k)) 0)), D.int IntKind.i64 (D.iVal (D.cAt (D.nth (List.map ixD L) (Int.toNat k)) 1)), D.int IntKind.i64 (D.iVal (D.cAt (D.nth (List.map ixD L) (Int.toNat k)) 2))])) (D.agg [D.int IntKind.i64 (0 : Int), D.int IntKind.i64 (0 : Int), D.int IntKind.i64 (0 : Int), D.int IntKind.i64 (0 : Int), D.int IntKind.i64 (0 : Int), D.int IntKind.i64 (0 : Int), D.str [], D.bool false])) 4)), D.int IntKind.i64 (D.iVal (D.cAt (getO (plM T (D.agg [D.int IntKind.i64 (D.iVal (D.cAt (D.nth (List.map ixD L) (Int.toNat k)) 0)), D.int IntKind.i64 (D.iVal (D.cAt (D.nth (List.map ixD L) (Int.toNat k)) 1)), D.int IntKind.i64 (D.iVal (D.cAt (D.nth (List.map ixD L) (Int.toNat k)) 2))])) (D.agg [D.int IntKind.i64 (0 : Int), D.int IntKind.i64 (0 : Int), D.int IntKind.i64 (0 : Int), D.int IntKind.i64 (0 : Int), D.int IntKind.i64 (0 : Int), D.int IntKind.i64 (0 : Int), D.str [], D.bool false])) 5)), D.str (D.sVal (D.cAt (getO (plM T (D.agg [D.int IntKind.i64 (D.iVal (D.cAt (D.nth (List.map ixD L) (Int.toNat k)) 0)), D.int IntKind.i64 (D.iVal (D.cAt (D.nth (List.map ixD L) (Int.toNat k)) 1)), D.int IntKind.i64 (D.iVal (D.cAt (D.nth (List.map ixD L) (Int.toNat k)) 2))])) (D.agg [D.int IntKind.i64 (0 : Int), D.int IntKind.i64 (0 : Int), D.int IntKind.i64 (0 : Int), D.int IntKind.i64 (0 : Int), D.int IntKind.i64 (0 : Int), D.int IntKind.i64 (0 : Int), D.str [], D.bool false])) 6))])) (D.int IntKind.i64 (0 : Int))) + (1 : Int))) (updD (D.agg [D.int IntKind.i64 (D.iVal (D.cAt (getO (plM T (D.agg [D.int IntKind.i64 (D.iVal (D.cAt (D.nth (List.map ixD L) (Int.toNat k)) 0)), D.int IntKind.i64 (D.iVal (D.cAt (D.nth (List.map ixD L) (Int.toNat k)) 1)), D.int IntKind.i64 (D.iVal (D.cAt (D.nth (List.map ixD L) (Int.toNat k)) 2))])) (D.agg [D.int IntKind.i64 (0 : Int), D.int IntKind.i64 (0 : Int), D.int IntKind.i64 (0 : Int), D.int IntKind.i64 (0 : Int), D.int IntKind.i64 (0 : Int), D.int IntKind.i64 (0 : Int), D.str [], D.bool false])) 3)), D.int IntKind.i64 (D.iVal (D.cAt (getO (plM T (D.agg [D.int IntKind.i64 (D.iVal (D.cAt (D.nth (List.map ixD L) (Int.toNat k)) 0)), D.int IntKind.i64 (D.iVal (D.cAt (D.nth (List.map ixD L) (Int.toNat k)) 1)), D.int IntKind.i64 (D.iVal (D.cAt (D.nth (List.map ixD L) (Int.toNat k)) 2))])) (D.agg [D.int IntKind.i64 (0 : Int), D.int IntKind.i64 (0 : Int), D.int IntKind.i64 (0 : Int), D.int IntKind.i64 (0 : Int), D.int IntKind.i64 (0 : Int), D.int IntKind.i64 (0 : Int), D.str [], D.bool false])) 4)), D.int IntKind.i64 (D.iVal (D.cAt (getO (plM T (D.agg [D.int IntKind.i64 (D.iVal (D.cAt (D.nth (List.map ixD L) (Int.toNat k)) 0)), D.int IntKind.i64 (D.iVal (D.cAt (D.nth (List.map ixD L) (Int.toNat k)) 1)), D.int IntKind.i64 (D.iVal (D.cAt (D.nth (List.map ixD L) (Int.toNat k)) 2))])) (D.agg [D.int IntKind.i64 (0 : Int), D.int IntKind.i64 (0 : Int), D.int IntKind.i64 (0 : Int), D.int IntKind.i64 (0 : Int), D.int IntKind.i64 (0 : Int), D.int IntKind.i64 (0 : Int), D.str [], D.bool false])) 5)), D.str (D.sVal (D.cAt (getO (plM T (D.agg [D.int IntKind.i64 (D.iVal (D.cAt (D.nth (List.map ixD L) (Int.toNat k)) 0)), D.int IntKind.i64 (D.iVal (D.cAt (D.nth (List.map ixD L) (Int.toNat k)) 1)), D.int IntKind.i64 (D.iVal (D.cAt (D.nth (List.map ixD L) (Int.toNat k)) 2))])) (D.agg [D.int IntKind.i64 (0 : Int), D.int IntKind.i64 (0 : Int), D.int IntKind.i64 (0 : Int), D.int IntKind.i64 (0 : Int), D.int IntKind.i64 (0 : Int), D.int IntKind.i64 (0 : Int), D.str [], D.bool false])) 6))]) (getO (h (D.agg [D.int IntKind.i64 (D.iVal (D.cAt (getO (plM T (D.agg [D.int IntKind.i64 (D.iVal (D.cAt (D.nth (List.map ixD L) (Int.toNat k)) 0)), D.int IntKind.i64 (D.iVal (D.cAt (D.nth (List.map ixD L) (Int.toNat k)) 1)), D.int IntKind.i64 (D.iVal (D.cAt (D.nth (List.map ixD L) (Int.toNat k)) 2))])) (D.agg [D.int IntKind.i64 (0 : Int), D.int IntKind.i64 (0 : Int), D.int IntKind.i64 (0 : Int), D.int IntKind.i64 (0 : Int), D.int IntKind.i64 (0 : Int), D.int IntKind.i64 (0 : Int), D.str [], D.bool false])) 3)), D.int IntKind.i64 (D.iVal (D.cAt (getO (plM T (D.agg [D.int IntKind.i64 (D.iVal (D.cAt (D.nth (List.map ixD L) (Int.toNat k)) 0)), D.int IntKind.i64 (D.iVal (D.cAt (D.nth (List.map ixD L) (Int.toNat k)) 1)), D.int IntKind.i64 (D.iVal (D.cAt (D.nth (List.map ixD L) (Int.toNat k)) 2))])) (D.agg [D.int IntKind.i64 (0 : Int), D.int IntKind.i64 (0 : Int), D.int IntKind.i64 (0 : Int), D.int IntKind.i64 (0 : Int), D.int IntKind.i64 (0 : Int), D.int IntKind.i64 (0 : Int), D.str [], D.bool false])) 4)), D.int IntKind.i64 (D.iVal (D.cAt (getO (plM T (D.agg [D.int IntKind.i64 (D.iVal (D.cAt (D.nth (List.map ixD L) (Int.toNat k)) 0)), D.int IntKind.i64 (D.iVal (D.cAt (D.nth (List.map ixD L) (Int.toNat k)) 1)), D.int IntKind.i64 (D.iVal (D.cAt (D.nth (List.map ixD L) (Int.toNat k)) 2))])) (D.agg [D.int IntKind.i64 (0 : Int), D.int IntKind.i64 (0 : Int), D.int IntKind.i64 (0 : Int), D.int IntKind.i64 (0 : Int), D.int IntKind.i64 (0 : Int), D.int IntKind.i64 (0 : Int), D.str [], D.bool false])) 5)), D.str (D.sVal (D.cAt (getO (plM T (D.agg [D.int IntKind.i64 (D.iVal (D.cAt (D.nth (List.map ixD L) (Int.toNat k)) 0)), D.int IntKind.i64 (D.iVal (D.cAt (D.nth (List.map ixD L) (Int.toNat k)) 1)), D.int IntKind.i64 (D.iVal (D.cAt (D.nth (List.map ixD L) (Int.toNat k)) 2))])) (D.agg [D.int IntKind.i64 (0 : Int), D.int IntKind.i64 (0 : Int), D.int IntKind.i64 (0 : Int), D.int IntKind.i64 (0 : Int), D.int IntKind.i64 (0 : Int), D.int IntKind.i64 (0 : Int), D.str [], D.bool false])) 6))])) (D.int IntKind.i64 (0 : Int))) h) (D.agg [D.int IntKind.i64 (D.iVal (D.cAt (getO (plM T (D.agg [D.int IntKind.i64 (D.iVal (D.cAt (D.nth (List.map ixD L) (Int.toNat k)) 0)), D.int IntKind.i64 (D.iVal (D.cAt (D.nth (List.map ixD L) (Int.toNat k)) 1)), D.int IntKind.i64 (D.iVal (D.cAt (D.nth (List.map ixD L) (Int.toNat k)) 2))])) (D.agg [D.int IntKind.i64 (0 : Int), D.int IntKind.i64 (0 : Int), D.int IntKind.i64 (0 : Int), D.int IntKind.i64 (0 : Int), D.int IntKind.i64 (0 : Int), D.int IntKind.i64 (0 : Int), D.str [], D.bool false])) 3)), D.int IntKind.i64 (D.iVal (D.cAt (getO (plM T (D.agg [D.int IntKind.i64 (D.iVal (D.cAt (D.nth (List.map ixD L) (Int.toNat k)) 0)), D.int IntKind.i64 (D.iVal (D.cAt (D.nth (List.map ixD L) (Int.toNat k)) 1)), D.int IntKind.i64 (D.iVal (D.cAt (D.nth (List.map ixD L) (Int.toNat k)) 2))])) (D.agg [D.int IntKind.i64 (0 : Int), D.int IntKind.i64 (0 : Int), D.int IntKind.i64 (0 : Int), D.int IntKind.i64 (0 : Int), D.int IntKind.i64 (0 : Int), D.int IntKind.i64 (0 : Int), D.str [], D.bool false])) 4)), D.int IntKind.i64 (D.iVal (D.cAt (getO (plM T (D.agg [D.int IntKind.i64 (D.iVal (D.cAt (D.nth (List.map ixD L) (Int.toNat k)) 0)), D.int IntKind.i64 (D.iVal (D.cAt (D.nth (List.map ixD L) (Int.toNat k)) 1)), D.int IntKind.i64 (D.iVal (D.cAt (D.nth (List.map ixD L) (Int.toNat k)) 2))])) (D.agg [D.int IntKind.i64 (0 : Int), D.int IntKind.i64 (0 : Int), D.int IntKind.i64 (0 : Int), D.int IntKind.i64 (0 : Int), D.int IntKind.i64 (0 : Int), D.int IntKind.i64 (0 : Int), D.str [], D.bool false])) 5)), D.str (D.sVal (D.cAt (getO (plM T (D.agg [D.int IntKind.i64 (D.iVal (D.cAt (D.nth (List.map ixD L) (Int.toNat k)) 0)), D.int IntKind.i64 (D.iVal (D.cAt (D.nth (List.map ixD L) (Int.toNat k)) 1)), D.int IntKind.i64 (D.iVal (D.cAt (D.nth (List.map ixD L) (Int.toNat k)) 2))])) (D.agg [D.int IntKind.i64 (0 : Int), D.int IntKind.i64 (0 : Int), D.int IntKind.i64 (0 : Int), D.int IntKind.i64 (0 : Int), D.int IntKind.i64 (0 : Int), D.int IntKind.i64 (0 : Int), D.str [], D.bool false])) 6))])) (D.int IntKind.i64 (0 : Int))) then bif decide (D.iVal (getO (updD (D.agg [D.int IntKind.i64 (D.iVal (D.cAt (getO (plM T (D.agg [D.int IntKind.i64 (D.iVal (D.cAt (D.nth (List.map ixD L) (Int.toNat k)) 0)), D.int IntKind.i64 (D.iVal (D.cAt (D.nth (List.map ixD L) (Int.toNat k)) 1)), D.int IntKind.i64 (D.iVal (D.cAt (D.nth (List.map ixD L) (Int.toNat k)) 2))])) (D.agg [D.int IntKind.i64 (0 : Int), D.int IntKind.i64 (0 : Int), D.int IntKind.i64 (0 : Int), D.int IntKind.i64 (0 : Int), D.int IntKind.i64 (0 : Int), D.int IntKind.i64 (0 : Int), D.str [], D.bool false])) 3)), D.int IntKind.i64 (D.iVal (D.cAt (getO (plM T (D.agg [D.int IntKind.i64 (D.iVal (D.cAt (D.nth (List.map ixD L) (Int.toNat k)) 0)), D.int IntKind.i64 (D.iVal (D.cAt (D.nth (List.map ixD L) (Int.toNat k)) 1)), D.int IntKind.i64 (D.iVal (D.cAt (D.nth (List.map ixD L) (Int.toNat k)) 2))])) (D.agg [D.int IntKind.i64 (0 : Int), D.int IntKind.i64 (0 : Int), D.int IntKind.i64 (0 : Int), D.int IntKind.i64 (0 : Int), D.int IntKind.i64 (0 : Int), D.int IntKind.i64 (0 : Int), D.str [], D.bool false])) 4)), D.int IntKind.i64 (D.iVal (D.cAt (getO (plM T (D.agg [D.int IntKind.i64 (D.iVal (D.cAt (D.nth (List.map ixD L) (Int.toNat k)) 0)), D.int IntKind.i64 (D.iVal (D.cAt (D.nth (List.map ixD L) (Int.toNat k)) 1)), D.int IntKind.i64 (D.iVal (D.cAt (D.nth (List.map ixD L) (Int.toNat k)) 2))])) (D.agg [D.int IntKind.i64 (0 : Int), D.int IntKind.i64 (0 : Int), D.int IntKind.i64 (0 : Int), D.int IntKind.i64 (0 : Int), D.int IntKind.i64 (0 : Int), D.int IntKind.i64 (0 : Int), D.str [], D.bool false])) 5)), D.str (D.sVal (D.cAt (getO (plM T (D.agg [D.int IntKind.i64 (D.iVal (D.cAt (D.nth (List.map ixD L) (Int.toNat k)) 0)), D.int IntKind.i64 (D.iVal (D.cAt (D.nth (List.map ixD L) (Int.toNat k)) 1)), D.int IntKind.i64 (D.iVal (D.cAt (D.nth (List.map ixD L) (Int.toNat k)) 2))])) (D.agg [D.int IntKind.i64 (0 : Int), D.int IntKind.i64 (0 : Int), D.int IntKind.i64 (0 : Int), D.int IntKind.i64 (0 : Int), D.int IntKind.i64 (0 : Int), D.int IntKind.i64 (0 : Int), D.str [], D.bool false])) 6))]) (D.int IntKind.i64 (D.iVal (getO (h (D.agg [D.int IntKind.i64 (D.iVal (D.cAt (getO (plM T (D.agg [D.int IntKind.i64 (D.iVal (D.cAt (D.nth (List.map ixD L) (Int.toNat k)) 0)), D.int IntKind.i64 (D.iVal (D.cAt (D.nth (List.map ixD L) (Int.toNat k)) 1)), D.int IntKind.i64 (D.iVal (D.cAt (D.nth (List.map ixD L) (Int.toNat k)) 2))])) (D.agg [D.int IntKind.i64 (0 : Int), D.int IntKind.i64 (0 : Int), D.int IntKind.i64 (0 : Int), D.int IntKind.i64 (0 : Int), D.int IntKind.i64 (0 : Int), D.int IntKind.i64 (0 : Int), D.str [], D.bool false])) 3)), D.int IntKind.i64 (D.iVal (D.cAt (getO (plM T (D.agg [D.int IntKind.i64 (D.iVal (D.cAt (D.nth (List.map ixD L) (Int.toNat k)) 0)), D.int IntKind.i64 (D.iVal (D.cAt (D.nth (List.map ixD L) (Int.toNat k)) 1)), D.int IntKind.i64 (D.iVal (D.cAt (D.nth (List.map ixD L) (Int.toNat k)) 2))])) (D.agg [D.int IntKind.i64 (0 : Int), D.int IntKind.i64 (0 : Int), D.int IntKind.i64 (0 : Int), D.int IntKind.i64 (0 : Int), D.int IntKind.i64 (0 : Int), D.int IntKind.i64 (0 : Int), D.str [], D.bool false])) 4)), D.int IntKind.i64 (D.iVal (D.cAt (getO (plM T (D.agg [D.int IntKind.i64 (D.iVal (D.cAt (D.nth (List.map ixD L) (Int.toNat k)) 0)), D.int IntKind.i64 (D.iVal (D.cAt (D.nth (List.map ixD L) (Int.toNat k)) 1)), D.int IntKind.i64 (D.iVal (D.cAt (D.nth (List.map ixD L) (Int.toNat k)) 2))])) (D.agg [D.int IntKind.i64 (0 : Int), D.int IntKind.i64 (0 : Int), D.int IntKind.i64 (0 : Int), D.int IntKind.i64 (0 : Int), D.int IntKind.i64 (0 : Int), D.int IntKind.i64 (0 : Int), D.str [], D.bool false])) 5)), D.str (D.sVal (D.cAt (getO (plM T (D.agg [D.int IntKind.i64 (D.iVal (D.cAt (D.nth (List.map ixD L) (Int.toNat k)) 0)), D.int IntKind.i64 (D.iVal (D.cAt (D.nth (List.map ixD L) (Int.toNat k)) 1)), D.int IntKind.i64 (D.iVal (D.cAt (D.nth (List.map ixD L) (Int.toNat k)) 2))])) (D.agg [D.int IntKind.i64 (0 : Int), D.int IntKind.i64 (0 : Int), D.int IntKind.i64 (0 : Int), D.int IntKind.i64 (0 : Int), D.int IntKind.i64 (0 : Int), D.int IntKind.i64 (0 : Int), D.str [], D.bool false])) 6))])) (D.int IntKind.i64 (0 : Int))) + (1 : Int))) (updD (D.agg [D.int IntKind.i64 (D.iVal (D.cAt (getO (plM T (D.agg [D.int IntKind.i64 (D.iVal (D.cAt (D.nth (List.map ixD L) (Int.toNat k)) 0)), D.int IntKind.i64 (D.iVal (D.cAt (D.nth (List.map ixD L) (Int.toNat k)) 1)), D.int IntKind.i64 (D.iVal (D.cAt (D.nth (List.map ixD L) (Int.toNat k)) 2))])) (D.agg [D.int IntKind.i64 (0 : Int), D.int IntKind.i64 (0 : Int), D.int IntKind.i64 (0 : Int), D.int IntKind.i64 (0 : Int), D.int IntKind.i64 (0 : Int), D.int IntKind.i64 (0 : Int), D.str [], D.bool false])) 3)), D.int IntKind.i64 (D.iVal (D.cAt (getO (plM T (D.agg [D.int IntKind.i64 (D.iVal (D.cAt (D.nth (List.map ixD L) (Int.toNat k)) 0)), D.int IntKind.i64 (D.iVal (D.cAt (D.nth (List.map ixD L) (Int.toNat k)) 1)), D.int IntKind.i64 (D.iVal (D.cAt (D.nth (List.map ixD L) (Int.toNat k)) 2))])) (D.agg [D.int IntKind.i64 (0 : Int), D.int IntKind.i64 (0 : Int), D.int IntKind.i64 (0 : Int), D.int IntKind.i64 (0 : Int), D.int IntKind.i64 (0 : Int), D.int IntKind.i64 (0 : Int), D.str [], D.bool false])) 4)), D.int IntKind.i64 (D.iVal (D.cAt (getO (plM T (D.agg [D.int IntKind.i64 (D.iVal (D.cAt (D.nth (List.map ixD L) (Int.toNat k)) 0)), D.int IntKind.i64 (D.iVal (D.cAt (D.nth (List.map ixD L) (Int.toNat k)) 1)), D.int IntKind.i64 (D.iVal (D.cAt (D.nth (List.map ixD L) (Int.toNat k)) 2))])) (D.agg [D.int IntKind.i64 (0 : Int), D.int IntKind.i64 (0 : Int), D.int IntKind.i64 (0 : Int), D.int IntKind.i64 (0 : Int), D.int IntKind.i64 (0 : Int), D.int IntKind.i64 (0 : Int), D.str [], D.bool false])) 5)), D.str (D.sVal (D.cAt (getO (plM T (D.agg [D.int IntKind.i64 (D.iVal (D.cAt (D.nth (List.map ixD L) (Int.toNat k)) 0)), D.int IntKind.i64 (D.iVal (D.cAt (D.nth (List.map ixD L) (Int.toNat k)) 1)), D.int IntKind.i64 (D.iVal (D.cAt (D.nth (List.map ixD L) (Int.toNat k)) 2))])) (D.agg [D.int IntKind.i64 (0 : Int), D.int IntKind.i64 (0 : Int), D.int IntKind.i64 (0 : Int), D.int IntKind.i64 (0 : Int), D.int IntKind.i64 (0 : Int), D.int IntKind.i64 (0 : Int), D.str [], D.bool false])) 6))]) (getO (h (D.agg [D.int IntKind.i64 (D.iVal (D.cAt (getO (plM T (D.agg [D.int IntKind.i64 (D.iVal (D.cAt (D.nth (List.map ixD L) (Int.toNat k)) 0)), D.int IntKind.i64 (D.iVal (D.cAt (D.nth (List.map ixD L) (Int.toNat k)) 1)), D.int IntKind.i64 (D.iVal (D.cAt (D.nth (List.map ixD L) (Int.toNat k)) 2))])) (D.agg [D.int IntKind.i64 (0 : Int), D.int IntKind.i64 (0 : Int), D.int IntKind.i64 (0 : Int), D.int IntKind.i64 (0 : Int), D.int IntKind.i64 (0 : Int), D.int IntKind.i64 (0 : Int), D.str [], D.bool false])) 3)), D.int IntKind.i64 (D.iVal (D.cAt (getO (plM T (D.agg [D.int IntKind.i64 (D.iVal (D.cAt (D.nth (List.map ixD L) (Int.toNat k)) 0)), D.int IntKind.i64 (D.iVal (D.cAt (D.nth (List.map ixD L) (Int.toNat k)) 1)), D.int IntKind.i64 (D.iVal (D.cAt (D.nth (List.map ixD L) (Int.toNat k)) 2))])) (D.agg [D.int IntKind.i64 (0 : Int), D.int IntKind.i64 (0 : Int), D.int IntKind.i64 (0 : Int), D.int IntKind.i64 (0 : Int), D.int IntKind.i64 (0 : Int), D.int IntKind.i64 (0 : Int), D.str [], D.bool false])) 4)), D.int IntKind.i64 (D.iVal (D.cAt (getO (plM T (D.agg [D.int IntKind.i64 (D.iVal (D.cAt (D.nth (List.map ixD L) (Int.toNat k)) 0)), D.int IntKind.i64 (D.iVal (D.cAt (D.nth (List.map ixD L) (Int.toNat k)) 1)), D.int IntKind.i64 (D.iVal (D.cAt (D.nth (List.map ixD L) (Int.toNat k)) 2))])) (D.agg [D.int IntKind.i64 (0 : Int), D.int IntKind.i64 (0 : Int), D.int IntKind.i64 (0 : Int), D.int IntKind.i64 (0 : Int), D.int IntKind.i64 (0 : Int), D.int IntKind.i64 (0 : Int), D.str [], D.bool false])) 5)), D.str (D.sVal (D.cAt (getO (plM T (D.agg [D.int IntKind.i64 (D.iVal (D.cAt (D.nth (List.map ixD L) (Int.toNat k)) 0)), D.int IntKind.i64 (D.iVal (D.cAt (D.nth (List.map ixD L) (Int.toNat k)) 1)), D.int IntKind.i64 (D.iVal (D.cAt (D.nth (List.map ixD L) (Int.toNat k)) 2))])) (D.agg [D.int IntKind.i64 (0 : Int), D.int IntKind.i64 (0 : Int), D.int IntKind.i64 (0 : Int), D.int IntKind.i64 (0 : Int), D.int IntKind.i64 (0 : Int), D.int IntKind.i64 (0 : Int), D.str [], D.bool false])) 6))])) (D.int IntKind.i64 (0 : Int))) h) (D.agg [D.int IntKind.i64 (D.iVal (D.cAt (getO (plM T (D.agg [D.int IntKind.i64 (D.iVal (D.cAt (D.nth (List.map ixD L) (Int.toNat k)) 0)), D.int IntKind.i64 (D.iVal (D.cAt (D.nth (List.map ixD L) (Int.toNat k)) 1)), D.int IntKind.i64 (D.iVal (D.cAt (D.nth (List.map ixD L) (Int.toNat k)) 2))])) (D.agg [D.int IntKind.i64 (0 : Int), D.int IntKind.i64 (0 : Int), D.int IntKind.i64 (0 : Int), D.int IntKind.i64 (0 : Int), D.int IntKind.i64 (0 : Int), D.int IntKind.i64 (0 : Int), D.str [], D.bool false])) 3)), D.int IntKind.i64 (D.iVal (D.cAt (getO (plM T (D.agg [D.int IntKind.i64 (D.iVal (D.cAt (D.nth (List.map ixD L) (Int.toNat k)) 0)), D.int IntKind.i64 (D.iVal (D.cAt (D.nth (List.map ixD L) (Int.toNat k)) 1)), D.int IntKind.i64 (D.iVal (D.cAt (D.nth (List.map ixD L) (Int.toNat k)) 2))])) (D.agg [D.int IntKind.i64 (0 : Int), D.int IntKind.i64 (0 : Int), D.int IntKind.i64 (0 : Int), D.int IntKind.i64 (0 : Int), D.int IntKind.i64 (0 : Int), D.int IntKind.i64 (0 : Int), D.str [], D.bool false])) 4)), D.int IntKind.i64 (D.iVal (D.cAt (getO (plM T (D.agg [D.int IntKind.i64 (D.iVal (D.cAt (D.nth (List.map ixD L) (Int.toNat k)) 0)), D.int IntKind.i64 (D.iVal (D.cAt (D.nth (List.map ixD L) (Int.toNat k)) 1)), D.int IntKind.i64 (D.iVal (D.cAt (D.nth (List.map ixD L) (Int.toNat k)) 2))])) (D.agg [D.int IntKind.i64 (0 : Int), D.int IntKind.i64 (0 : Int), D.int IntKind.i64 (0 : Int), D.int IntKind.i64 (0 : Int), D.int IntKind.i64 (0 : Int), D.int IntKind.i64 (0 : Int), D.str [], D.bool false])) 5)), D.str (D.sVal (D.cAt (getO (plM T (D.agg [D.int IntKind.i64 (D.iVal (D.cAt (D.nth (List.map ixD L) (Int.toNat k)) 0)), D.int IntKind.i64 (D.iVal (D.cAt (D.nth (List.map ixD L) (Int.toNat k)) 1)), D.int IntKind.i64 (D.iVal (D.cAt (D.nth (List.map ixD L) (Int.toNat k)) 2))])) (D.agg [D.int IntKind.i64 (0 : Int), D.int IntKind.i64 (0 : Int), D.int IntKind.i64 (0 : Int), D.int IntKind.i64 (0 : Int), D.int IntKind.i64 (0 : Int), D.int IntKind.i64 (0 : Int), D.str [], D.bool false])) 6))])) (D.int IntKind.i64 (0 : Int))) > (1 : Int)) then ∃ (s : List UInt8), ∃ (t : Int), ∃ (r : Int), ∃ (i : Int), [P.d (D.str (D.sVal (D.cAt (getO (plM T (D.agg [D.int IntKind.i64 (D.iVal (D.cAt (D.nth (List.map ixD L) (Int.toNat k)) 0)), D.int IntKind.i64 (D.iVal (D.cAt (D.nth (List.map ixD L) (Int.toNat k)) 1)), D.int IntKind.i64 (D.iVal (D.cAt (D.nth (List.map ixD L) (Int.toNat k)) 2))])) (D.agg [D.int IntKind.i64 (0 : Int), D.int IntKind.i64 (0 : Int), D.int IntKind.i64 (0 : Int), D.int IntKind.i64 (0 : Int), D.int IntKind.i64 (0 : Int), D.int IntKind.i64 (0 : Int), D.str [], D.bool false])) 6))), P.d (D.agg [D.int IntKind.i64 (D.iVal (D.cAt (D.nth (List.map ixD L) (Int.toNat k)) 0)), D.int IntKind.i64 (D.iVal (D.cAt (D.nth (List.map ixD L) (Int.toNat k)) 1)), D.int IntKind.i64 (D.iVal (D.cAt (D.nth (List.map ixD L) (Int.toNat k)) 2))])] = [P.d (D.str s), P.d (D.agg [D.int IntKind.i64 t, D.int IntKind.i64 r, D.int IntKind.i64 i])] ∧ EqR [] [] ∧ bif decide ((-9223372036854775808 : Int) ≤ k + (1 : Int) ∧ k + (1 : Int) ≤ (9223372036854775807 : Int)) then post (PX.normal, S.mk 56 [(0, P.ref 0 0 0), (2, P.mp 5 0), (9, P.sl 6 0 n), (10, P.d (D.int IntKind.i64 (↑n : Int))), (11, P.d (D.int IntKind.i64 (k + (1 : Int))))] [(0, En.mk 0 (some 0) (Obj.box 61 [P.mp 1 0, P.mp 2 0, P.mp 3 0, P.mp 4 0])), (1, En.mk 0 (some 1) (Obj.map 41 (fun (x : D) => match x with | D.agg [D.int IntKind.i64 a, D.int IntKind.i64 b, D.int IntKind.i64 c] => Option.map plD (atPl T (a, b, c)) | _ => none) c1 false)), (2, En.mk 0 (some 2) (Obj.map 41 f2 c2 z2)), (3, En.mk 0 (some 3) (Obj.map 41 f3 c3 true)), (4, En.mk 0 (some 4) (Obj.map 41 (fun (k' : D) => bif D.eqB (D.agg [D.int IntKind.i64 (D.iVal (D.cAt (D.nth (List.map ixD L) (Int.toNat k)) 0)), D.int IntKind.i64 (D.iVal (D.cAt (D.nth (List.map ixD L) (Int.toNat k)) (0 + 1))), D.int IntKind.i64 (D.iVal (D.cAt (D.nth (List.map ixD L) (Int.toNat k)) (0 + 1 + 1)))]) k' then some (D.str (Prod.fst (clashP s t r i))) else updD (D.agg [D.int IntKind.i64 (D.iVal (D.cAt (D.nth (List.map ixD L) (Int.toNat k)) 0)), D.int IntKind.i64 (D.iVal (D.cAt (D.nth (List.map ixD L) (Int.toNat k)) (0 + 1))), D.int IntKind.i64 (D.iVal (D.cAt (D.nth (List.map ixD L) (Int.toNat k)) (0 + 1 + 1)))]) (D.str (D.sVal (D.cAt (getO (plM T (D.agg [D.int IntKind.i64 (D.iVal (D.cAt (D.nth (List.map ixD L) (Int.toNat k)) 0)), D.int IntKind.i64 (D.iVal (D.cAt (D.nth (List.map ixD L) (Int.toNat k)) (0 + 1))), D.int IntKind.i64 (D.iVal (D.cAt (D.nth (List.map ixD L) (Int.toNat k)) (0 + 1 + 1)))])) (D.agg [D.int IntKind.i64 (0 : Int), D.int IntKind.i64 (0 : Int), D.int IntKind.i64 (0 : Int), D.int IntKind.i64 (0 : Int), D.int IntKind.i64 (0 : Int), D.int IntKind.i64 (0 : Int), D.str (Array.toList (ByteArray.data (ByteArray.mk #[]))), D.bool false])) (0 + 1 + 1 + 1 + 1 + 1 + 1)))) f4 k') (bif Option.isSome (updD (D.agg [D.int IntKind.i64 (D.iVal (D.cAt (D.nth (List.map ixD L) (Int.toNat k)) 0)), D.int IntKind.i64 (D.iVal (D.cAt (D.nth (List.map ixD L) (Int.toNat k)) 1)), D.int IntKind.i64 (D.iVal (D.cAt (D.nth (List.map ixD L) (Int.toNat k)) 2))]) (D.str (D.sVal (D.cAt (getO (plM T (D.agg [D.int IntKind.i64 (D.iVal (D.cAt (D.nth (List.map ixD L) (Int.toNat k)) 0)), D.int IntKind.i64 (D.iVal (D.cAt (D.nth (List.map ixD L) (Int.toNat k)) 1)), D.int IntKind.i64 (D.iVal (D.cAt (D.nth (List.map ixD L) (Int.toNat k)) 2))])) (D.agg [D.int IntKind.i64 (0 : Int), D.int IntKind.i64 (0 : Int), D.int IntKind.i64 (0 : Int), D.int IntKind.i64 (0 : Int), D.int IntKind.i64 (0 : Int), D.int IntKind.i64 (0 : Int), D.str [], D.bool false])) 6))) f4 (D.agg [D.int IntKind.i64 (D.iVal (D.cAt (D.nth (List.map ixD L) (Int.toNat k)) 0)), D.int IntKind.i64 (D.iVal (D.cAt (D.nth (List.map ixD L) (Int.toNat k)) 1)), D.int IntKind.i64 (D.iVal (D.cAt (D.nth (List.map ixD L) (Int.toNat k)) 2))])) then bif Option.isSome (f4 (D.agg [D.int IntKind.i64 (D.iVal (D.cAt (D.nth (List.map ixD L) (Int.toNat k)) 0)), D.int IntKind.i64 (D.iVal (D.cAt (D.nth (List.map ixD L) (Int.toNat k)) 1)), D.int IntKind.i64 (D.iVal (D.cAt (D.nth (List.map ixD L) (Int.toNat k)) 2))])) then c4 else c4 + (1 : Int) else (bif Option.isSome (f4 (D.agg [D.int IntKind.i64 (D.iVal (D.cAt (D.nth (List.map ixD L) (Int.toNat k)) 0)), D.int IntKind.i64 (D.iVal (D.cAt (D.nth (List.map ixD L) (Int.toNat k)) 1)), D.int IntKind.i64 (D.iVal (D.cAt (D.nth (List.map ixD L) (Int.toNat k)) 2))])) then c4 else c4 + (1 : Int)) + (1 : Int)) false)), (5, En.mk 0 none (Obj.map 86 (fun (k' : D) => bif D.eqB (D.agg [D.int IntKind.i64 (D.iVal (D.cAt (getO (plM T (D.agg [D.int IntKind.i64 (D.iVal (D.cAt (D.nth (List.map ixD L) (Int.toNat k)) 0)), D.int IntKind.i64 (D.iVal (D.cAt (D.nth (List.map ixD L) (Int.toNat k)) (0 + 1))), D.int IntKind.i64 (D.iVal (D.cAt (D.nth (List.map ixD L) (Int.toNat k)) (0 + 1 + 1)))])) (D.agg [D.int IntKind.i64 (0 : Int), D.int IntKind.i64 (0 : Int), D.int IntKind.i64 (0 : Int), D.int IntKind.i64 (0 : Int), D.int IntKind.i64 (0 : Int), D.int IntKind.i64 (0 : Int), D.str (Array.toList (ByteArray.data (ByteArray.mk #[]))), D.bool false])) (0 + 1 + 1 + 1))), D.int IntKind.i64 (D.iVal (D.cAt (getO (plM T (D.agg [D.int IntKind.i64 (D.iVal (D.cAt (D.nth (List.map ixD L) (Int.toNat k)) 0)), D.int IntKind.i64 (D.iVal (D.cAt (D.nth (List.map ixD L) (Int.toNat k)) (0 + 1))), D.int IntKind.i64 (D.iVal (D.cAt (D.nth (List.map ixD L) (Int.toNat k)) (0 + 1 + 1)))])) (D.agg [D.int IntKind.i64 (0 : Int), D.int IntKind.i64 (0 : Int), D.int IntKind.i64 (0 : Int), D.int IntKind.i64 (0 : Int), D.int IntKind.i64 (0 : Int), D.int IntKind.i64 (0 : Int), D.str (Array.toList (ByteArray.data (ByteArray.mk #[]))), D.bool false])) (0 + 1 + 1 + 1 + 1))), D.int IntKind.i64 (D.iVal (D.cAt (getO (plM T (D.agg [D.int IntKind.i64 (D.iVal (D.cAt (D.nth (List.map ixD L) (Int.toNat k)) 0)), D.int IntKind.i64 (D.iVal (D.cAt (D.nth (List.map ixD L) (Int.toNat k)) (0 + 1))), D.int IntKind.i64 (D.iVal (D.cAt (D.nth (List.map ixD L) (Int.toNat k)) (0 + 1 + 1)))])) (D.agg [D.int IntKind.i64 (0 : Int), D.int IntKind.i64 (0 : Int), D.int IntKind.i64 (0 : Int), D.int IntKind.i64 (0 : Int), D.int IntKind.i64 (0 : Int), D.int IntKind.i64 (0 : Int), D.str (Array.toList (ByteArray.data (ByteArray.mk #[]))), D.bool false])) (0 + 1 + 1 + 1 + 1 + 1))), D.str (Array.toList (ByteArray.data (ByteArray.mk (Array.mk (D.sVal (D.cAt (getO (plM T (D.agg [D.int IntKind.i64 (D.iVal (D.cAt (D.nth (List.map ixD L) (Int.toNat k)) 0)), D.int IntKind.i64 (D.iVal (D.cAt (D.nth (List.map ixD L) (Int.toNat k)) (0 + 1))), D.int IntKind.i64 (D.iVal (D.cAt (D.nth (List.map ixD L) (Int.toNat k)) (0 + 1 + 1)))])) (D.agg [D.int IntKind.i64 (0 : Int), D.int IntKind.i64 (0 : Int), D.int IntKind.i64 (0 : Int), D.int IntKind.i64 (0 : Int), D.int IntKind.i64 (0 : Int), D.int IntKind.i64 (0 : Int), D.str (Array.toList (ByteArray.data (ByteArray.mk #[]))), D.bool false])) (0 + 1 + 1 + 1 + 1 + 1 + 1)))))))]) k' then some (D.int IntKind.i64 (D.iVal (getO (h (D.agg [D.int IntKind.i64 (D.iVal (D.cAt (getO (plM T (D.agg [D.int IntKind.i64 (D.iVal (D.cAt (D.nth (List.map ixD L) (Int.toNat k)) 0)), D.int IntKind.i64 (D.iVal (D.cAt (D.nth (List.map ixD L) (Int.toNat k)) (0 + 1))), D.int IntKind.i64 (D.iVal (D.cAt (D.nth (List.map ixD L) (Int.toNat k)) (0 + 1 + 1)))])) (D.agg [D.int IntKind.i64 (0 : Int), D.int IntKind.i64 (0 : Int), D.int IntKind.i64 (0 : Int), D.int IntKind.i64 (0 : Int), D.int IntKind.i64 (0 : Int), D.int IntKind.i64 (0 : Int), D.str (Array.toList (ByteArray.data (ByteArray.mk #[]))), D.bool false])) (0 + 1 + 1 + 1))), D.int IntKind.i64 (D.iVal (D.cAt (getO (plM T (D.agg [D.int IntKind.i64 (D.iVal (D.cAt (D.nth (List.map ixD L) (Int.toNat k)) 0)), D.int IntKind.i64 (D.iVal (D.cAt (D.nth (List.map ixD L) (Int.toNat k)) (0 + 1))), D.int IntKind.i64 (D.iVal (D.cAt (D.nth (List.map ixD L) (Int.toNat k)) (0 + 1 + 1)))])) (D.agg [D.int IntKind.i64 (0 : Int), D.int IntKind.i64 (0 : Int), D.int IntKind.i64 (0 : Int), D.int IntKind.i64 (0 : Int), D.int IntKind.i64 (0 : Int), D.int IntKind.i64 (0 : Int), D.str (Array.toList (ByteArray.data (ByteArray.mk #[]))), D.bool false])) (0 + 1 + 1 + 1 + 1))), D.int IntKind.i64 (D.iVal (D.cAt (getO (plM T (D.agg [D.int IntKind.i64 (D.iVal (D.cAt (D.nth (List.map ixD L) (Int.toNat k)) 0)), D.int IntKind.i64 (D.iVal (D.cAt (D.nth (List.map ixD L) (Int.toNat k)) (0 + 1))), D.int IntKind.i64 (D.iVal (D.cAt (D.nth (List.map ixD L) (Int.toNat k)) (0 + 1 + 1)))])) (D.agg [D.int IntKind.i64 (0 : Int), D.int IntKind.i64 (0 : Int), D.int IntKind.i64 (0 : Int), D.int IntKind.i64 (0 : Int), D.int IntKind.i64 (0 : Int), D.int IntKind.i64 (0 : Int), D.str (Array.toList (ByteArray.data (ByteArray.mk #[]))), D.bool false])) (0 + 1 + 1 + 1 + 1 + 1))), D.str (Array.toList (ByteArray.data (ByteArray.mk (Array.mk (D.sVal (D.cAt (getO (plM T (D.agg [D.int IntKind.i64 (D.iVal (D.cAt (D.nth (List.map ixD L) (Int.toNat k)) 0)), D.int IntKind.i64 (D.iVal (D.cAt (D.nth (List.map ixD L) (Int.toNat k)) (0 + 1))), D.int IntKind.i64 (D.iVal (D.cAt (D.nth (List.map ixD L) (Int.toNat k)) (0 + 1 + 1)))])) (D.agg [D.int IntKind.i64 (0 : Int), D.int IntKind.i64 (0 : Int), D.int IntKind.i64 (0 : Int), D.int IntKind.i64 (0 : Int), D.int IntKind.i64 (0 : Int), D.int IntKind.i64 (0 : Int), D.str (Array.toList (ByteArray.data (ByteArray.mk #[]))), D.bool false])) (0 + 1 + 1 + 1 + 1 + 1 + 1)))))))])) (D.int IntKind.i64 (0 : Int))) + (1 : Int))) else updD (D.agg [D.int IntKind.i64 (D.iVal (D.cAt (getO (plM T (D.agg [D.int IntKind.i64 (D.iVal (D.cAt (D.nth (List.map ixD L) (Int.toNat k)) 0)), D.int IntKind.i64 (D.iVal (D.cAt (D.nth (List.map ixD L) (Int.toNat k)) (0 + 1))), D.int IntKind.i64 (D.iVal (D.cAt (D.nth (List.map ixD L) (Int.toNat k)) (0 + 1 + 1)))])) (D.agg [D.int IntKind.i64 (0 : Int), D.int IntKind.i64 (0 : Int), D.int IntKind.i64 (0 : Int), D.int IntKind.i64 (0 : Int), D.int IntKind.i64 (0 : Int), D.int IntKind.i64 (0 : Int), D.str (Array.toList (ByteArray.data (ByteArray.mk #[]))), D.bool false])) (0 + 1 + 1 + 1))), D.int IntKind.i64 (D.iVal (D.cAt (getO (plM T (D.agg [D.int IntKind.i64 (D.iVal (D.cAt (D.nth (List.map ixD L) (Int.toNat k)) 0)), D.int IntKind.i64 (D.iVal (D.cAt (D.nth (List.map ixD L) (Int.toNat k)) (0 + 1))), D.int IntKind.i64 (D.iVal (D.cAt (D.nth (List.map ixD L) (Int.toNat k)) (0 + 1 + 1)))])) (D.agg [D.int IntKind.i64 (0 : Int), D.int IntKind.i64 (0 : Int), D.int IntKind.i64 (0 : Int), D.int IntKind.i64 (0 : Int), D.int IntKind.i64 (0 : Int), D.int IntKind.i64 (0 : Int), D.str (Array.toList (ByteArray.data (ByteArray.mk #[]))), D.bool false])) (0 + 1 + 1 + 1 + 1))), D.int IntKind.i64 (D.iVal (D.cAt (getO (plM T (D.agg [D.int IntKind.i64 (D.iVal (D.cAt (D.nth (List.map ixD L) (Int.toNat k)) 0)), D.int IntKind.i64 (D.iVal (D.cAt (D.nth (List.map ixD L) (Int.toNat k)) (0 + 1))), D.int IntKind.i64 (D.iVal (D.cAt (D.nth (List.map ixD L) (Int.toNat k)) (0 + 1 + 1)))])) (D.agg [D.int IntKind.i64 (0 : Int), D.int IntKind.i64 (0 : Int), D.int IntKind.i64 (0 : Int), D.int IntKind.i64 (0 : Int), D.int IntKind.i64 (0 : Int), D.int IntKind.i64 (0 : Int), D.str (Array.toList (ByteArray.data (ByteArray.mk #[]))), D.bool false])) (0 + 1 + 1 + 1 + 1 + 1))), D.str (Array.toList (ByteArray.data (ByteArray.mk (Array.mk (D.sVal (D.cAt (getO (plM T (D.agg [D.int IntKind.i64 (D.iVal (D.cAt (D.nth (List.map ixD L) (Int.toNat k)) 0)), D.int IntKind.i64 (D.iVal (D.cAt (D.nth (List.map ixD L) (Int.toNat k)) (0 + 1))), D.int IntKind.i64 (D.iVal (D.cAt (D.nth (List.map ixD L) (Int.toNat k)) (0 + 1 + 1)))])) (D.agg [D.int IntKind.i64 (0 : Int), D.int IntKind.i64 (0 : Int), D.int IntKind.i64 (0 : Int), D.int IntKind.i64 (0 : Int), D.int IntKind.i64 (0 : Int), D.int IntKind.i64 (0 : Int), D.str (Array.toList (ByteArray.data (ByteArray.mk #[]))), D.bool false])) (0 + 1 + 1 + 1 + 1 + 1 + 1)))))))]) (getO (h (D.agg [D.int IntKind.i64 (D.iVal (D.cAt (getO (plM T (D.agg [D.int IntKind.i64 (D.iVal (D.cAt (D.nth (List.map ixD L) (Int.toNat k)) 0)), D.int IntKind.i64 (D.iVal (D.cAt (D.nth (List.map ixD L) (Int.toNat k)) (0 + 1))), D.int IntKind.i64 (D.iVal (D.cAt (D.nth (List.map ixD L) (Int.toNat k)) (0 + 1 + 1)))])) (D.agg [D.int IntKind.i64 (0 : Int), D.int IntKind.i64 (0 : Int), D.int IntKind.i64 (0 : Int), D.int IntKind.i64 (0 : Int), D.int IntKind.i64 (0 : Int), D.int IntKind.i64 (0 : Int), D.str (Array.toList (ByteArray.data (ByteArray.mk #[]))), D.bool false])) (0 + 1 + 1 + 1))), D.int IntKind.i64 (D.iVal (D.cAt (getO (plM T (D.agg [D.int IntKind.i64 (D.iVal (D.cAt (D.nth (List.map ixD L) (Int.toNat k)) 0)), D.int IntKind.i64 (D.iVal (D.cAt (D.nth (List.map ixD L) (Int.toNat k)) (0 + 1))), D.int IntKind.i64 (D.iVal (D.cAt (D.nth (List.map ixD L) (Int.toNat k)) (0 + 1 + 1)))])) (D.agg [D.int IntKind.i64 (0 : Int), D.int IntKind.i64 (0 : Int), D.int IntKind.i64 (0 : Int), D.int IntKind.i64 (0 : Int), D.int IntKind.i64 (0 : Int), D.int IntKind.i64 (0 : Int), D.str (Array.toList (ByteArray.data (ByteArray.mk #[]))), D.bool false])) (0 + 1 + 1 + 1 + 1))), D.int IntKind.i64 (D.iVal (D.cAt (getO (plM T (D.agg [D.int IntKind.i64 (D.iVal (D.cAt (D.nth (List.map ixD L) (Int.toNat k)) 0)), D.int IntKind.i64 (D.iVal (D.cAt (D.nth (List.map ixD L) (Int.toNat k)) (0 + 1))), D.int IntKind.i64 (D.iVal (D.cAt (D.nth (List.map ixD L) (Int.toNat k)) (0 + 1 + 1)))])) (D.agg [D.int IntKind.i64 (0 : Int), D.int IntKind.i64 (0 : Int), D.int IntKind.i64 (0 : Int), D.int IntKind.i64 (0 : Int), D.int IntKind.i64 (0 : Int), D.int IntKind.i64 (0 : Int), D.str (Array.toList (ByteArray.data (ByteArray.mk #[]))), D.bool false])) (0 + 1 + 1 + 1 + 1 + 1))), D.str (Array.toList (ByteArray.data (ByteArray.mk (Array.mk (D.sVal (D.cAt (getO (plM T (D.agg [D.int IntKind.i64 (D.iVal (D.cAt (D.nth (List.map ixD L) (Int.toNat k)) 0)), D.int IntKind.i64 (D.iVal (D.cAt (D.nth (List.map ixD L) (Int.toNat k)) (0 + 1))), D.int IntKind.i64 (D.iVal (D.cAt (D.nth (List.map ixD L) (Int.toNat k)) (0 + 1 + 1)))])) (D.agg [D.int IntKind.i64 (0 : Int), D.int IntKind.i64 (0 : Int), D.int IntKind.i64 (0 : Int), D.int IntKind.i64 (0 : Int), D.int IntKind.i64 (0 : Int), D.int IntKind.i64 (0 : Int), D.str (Array.toList (ByteArray.data (ByteArray.mk #[]))), D.bool false])) (0 + 1 + 1 + 1 + 1 + 1 + 1)))))))])) (D.int IntKind.i64 (0 : Int))) h k') (bif Option.isSome (h (D.agg [D.int IntKind.i64 (D.iVal (D.cAt (getO (plM T (D.agg [D.int IntKind.i64 (D.iVal (D.cAt (D.nth (List.map ixD L) (Int.toNat k)) 0)), D.int IntKind.i64 (D.iVal (D.cAt (D.nth (List.map ixD L) (Int.toNat k)) 1)), D.int IntKind.i64 (D.iVal (D.cAt (D.nth (List.map ixD L) (Int.toNat k)) 2))])) (D.agg [D.int IntKind.i64 (0 : Int), D.int IntKind.i64 (0 : Int), D.int IntKind.i64 (0 : Int), D.int IntKind.i64 (0 : Int), D.int IntKind.i64 (0 : Int), D.int IntKind.i64 (0 : Int), D.str [], D.bool false])) 3)), D.int IntKind.i64 (D.iVal (D.cAt (getO (plM T (D.agg [D.int IntKind.i64 (D.iVal (D.cAt (D.nth (List.map ixD L) (Int.toNat k)) 0)), D.int IntKind.i64 (D.iVal (D.cAt (D.nth (List.map ixD L) (Int.toNat k)) 1)), D.int IntKind.i64 (D.iVal (D.cAt (D.nth (List.map ixD L) (Int.toNat k)) 2))])) (D.agg [D.int IntKind.i64 (0 : Int), D.int IntKind.i64 (0 : Int), D.int IntKind.i64 (0 : Int), D.int IntKind.i64 (0 : Int), D.int IntKind.i64 (0 : Int), D.int IntKind.i64 (0 : Int), D.str [], D.bool false])) 4)), D.int IntKind.i64 (D.iVal (D.cAt (getO (plM T (D.agg [D.int IntKind.i64 (D.iVal (D.cAt (D.nth (List.map ixD L) (Int.toNat k)) 0)), D.int IntKind.i64 (D.iVal (D.cAt (D.nth (List.map ixD L) (Int.toNat k)) 1)), D.int IntKind.i64 (D.iVal (D.cAt (D.nth (List.map ixD L) (Int.toNat k)) 2))])) (D.agg [D.int IntKind.i64 (0 : Int), D.int IntKind.i64 (0 : Int), D.int IntKind.i64 (0 : Int), D.int IntKind.i64 (0 : Int), D.int IntKind.i64 (0 : Int), D.int IntKind.i64 (0 : Int), D.str [], D.bool false])) 5)), D.str (D.sVal (D.cAt (getO (plM T (D.agg [D.int IntKind.i64 (D.iVal (D.cAt (D.nth (List.map ixD L) (Int.toNat k)) 0)), D.int IntKind.i64 (D.iVal (D.cAt (D.nth (List.map ixD L) (Int.toNat k)) 1)), D.int IntKind.i64 (D.iVal (D.cAt (D.nth (List.map ixD L) (Int.toNat k)) 2))])) (D.agg [D.int IntKind.i64 (0 : Int), D.int IntKind.i64 (0 : Int), D.int IntKind.i64 (0 : Int), D.int IntKind.i64 (0 : Int), D.int IntKind.i64 (0 : Int), D.int IntKind.i64 (0 : Int), D.str [], D.bool false])) 6))])) then c else c + (1 : Int)) false)), (6, En.mk 0 none (Obj.arr 41 false (List.map ixD L)))]) else False else bif decide ((-9223372036854775808 : Int) ≤ k + (1 : Int) ∧ k + (1 : Int) ≤ (9223372036854775807 : Int)) then post (PX.normal, S.mk 56 [(0, P.ref 0 0 0), (2, P.mp 5 0), (9, P.sl 6 0 n), (10, P.d (D.int IntKind.i64 (↑n : Int))), (11, P.d (D.int IntKind.i64 (k + (1 : Int))))] [(0, En.mk 0 (some 0) (Obj.box 61 [P.mp 1 0, P.mp 2 0, P.mp 3 0, P.mp 4 0])), (1, En.mk 0 (some 1) (Obj.map 41 (fun (x : D) => match x with | D.agg [D.int IntKind.i64 a, D.int IntKind.i64 b, D.int IntKind.i64 c] => Option.map plD (atPl T (a, b, c)) | _ => none) c1 false)), (2, En.mk 0 (some 2) (Obj.map 41 f2 c2 z2)), (3, En.mk 0 (some 3) (Obj.map 41 f3 c3 true)), (4, En.mk 0 (some 4) (Obj.map 41 (fun (k' : D) => bif D.eqB (D.agg [D.int IntKind.i64 (D.iVal (D.cAt (D.nth (List.map ixD L) (Int.toNat k)) 0)), D.int IntKind.i64 (D.iVal (D.cAt (D.nth (List.map ixD L) (Int.toNat k)) (0 + 1))), D.int IntKind.i64 (D.iVal (D.cAt (D.nth (List.map ixD L) (Int.toNat k)) (0 + 1 + 1)))]) k' then some (D.str (D.sVal (D.cAt (getO (plM T (D.agg [D.int IntKind.i64 (D.iVal (D.cAt (D.nth (List.map ixD L) (Int.toNat k)) 0)), D.int IntKind.i64 (D.iVal (D.cAt (D.nth (List.map ixD L) (Int.toNat k)) (0 + 1))), D.int IntKind.i64 (D.iVal (D.cAt (D.nth (List.map ixD L) (Int.toNat k)) (0 + 1 + 1)))])) (D.agg [D.int IntKind.i64 (0 : Int), D.int IntKind.i64 (0 : Int), D.int IntKind.i64 (0 : Int), D.int IntKind.i64 (0 : Int), D.int IntKind.i64 (0 : Int), D.int IntKind.i64 (0 : Int), D.str (Array.toList (ByteArray.data (ByteArray.mk #[]))), D.bool false])) (0 + 1 + 1 + 1 + 1 + 1 + 1)))) else f4 k') (bif Option.isSome (f4 (D.agg [D.int IntKind.i64 (D.iVal (D.cAt (D.nth (List.map ixD L) (Int.toNat k)) 0)), D.int IntKind.i64 (D.iVal (D.cAt (D.nth (List.map ixD L) (Int.toNat k)) 1)), D.int IntKind.i64 (D.iVal (D.cAt (D.nth (List.map ixD L) (Int.toNat k)) 2))])) then c4 else c4 + (1 : Int)) false)), (5, En.mk 0 none (Obj.map 86 (fun (k' : D) => bif D.eqB (D.agg [D.int IntKind.i64 (D.iVal (D.cAt (getO (plM T (D.agg [D.int IntKind.i64 (D.iVal (D.cAt (D.nth (List.map ixD L) (Int.toNat k)) 0)), D.int IntKind.i64 (D.iVal (D.cAt (D.nth (List.map ixD L) (Int.toNat k)) (0 + 1))), D.int IntKind.i64 (D.iVal (D.cAt (D.nth (List.map ixD L) (Int.toNat k)) (0 + 1 + 1)))])) (D.agg [D.int IntKind.i64 (0 : Int), D.int IntKind.i64 (0 : Int), D.int IntKind.i64 (0 : Int), D.int IntKind.i64 (0 : Int), D.int IntKind.i64 (0 : Int), D.int IntKind.i64 (0 : Int), D.str (Array.toList (ByteArray.data (ByteArray.mk #[]))), D.bool false])) (0 + 1 + 1 + 1))), D.int IntKind.i64 (D.iVal (D.cAt (getO (plM T (D.agg [D.int IntKind.i64 (D.iVal (D.cAt (D.nth (List.map ixD L) (Int.toNat k)) 0)), D.int IntKind.i64 (D.iVal (D.cAt (D.nth (List.map ixD L) (Int.toNat k)) (0 + 1))), D.int IntKind.i64 (D.iVal (D.cAt (D.nth (List.map ixD L) (Int.toNat k)) (0 + 1 + 1)))])) (D.agg [D.int IntKind.i64 (0 : Int), D.int IntKind.i64 (0 : Int), D.int IntKind.i64 (0 : Int), D.int IntKind.i64 (0 : Int), D.int IntKind.i64 (0 : Int), D.int IntKind.i64 (0 : Int), D.str (Array.toList (ByteArray.data (ByteArray.mk #[]))), D.bool false])) (0 + 1 + 1 + 1 + 1))), D.int IntKind.i64 (D.iVal (D.cAt (getO (plM T (D.agg [D.int IntKind.i64 (D.iVal (D.cAt (D.nth (List.map ixD L) (Int.toNat k)) 0)), D.int IntKind.i64 (D.iVal (D.cAt (D.nth (List.map ixD L) (Int.toNat k)) (0 + 1))), D.int IntKind.i64 (D.iVal (D.cAt (D.nth (List.map ixD L) (Int.toNat k)) (0 + 1 + 1)))])) (D.agg [D.int IntKind.i64 (0 : Int), D.int IntKind.i64 (0 : Int), D.int IntKind.i64 (0 : Int), D.int IntKind.i64 (0 : Int), D.int IntKind.i64 (0 : Int), D.int IntKind.i64 (0 : Int), D.str (Array.toList (ByteArray.data (ByteArray.mk #[]))), D.bool false])) (0 + 1 + 1 + 1 + 1 + 1))), D.str (Array.toList (ByteArray.data (ByteArray.mk (Array.mk (D.sVal (D.cAt (getO (plM T (D.agg [D.int IntKind.i64 (D.iVal (D.cAt (D.nth (List.map ixD L) (Int.toNat k)) 0)), D.int IntKind.i64 (D.iVal (D.cAt (D.nth (List.map ixD L) (Int.toNat k)) (0 + 1))), D.int IntKind.i64 (D.iVal (D.cAt (D.nth (List.map ixD L) (Int.toNat k)) (0 + 1 + 1)))])) (D.agg [D.int IntKind.i64 (0 : Int), D.int IntKind.i64 (0 : Int), D.int IntKind.i64 (0 : Int), D.int IntKind.i64 (0 : Int), D.int IntKind.i64 (0 : Int), D.int IntKind.i64 (0 : Int), D.str (Array.toList (ByteArray.data (ByteArray.mk #[]))), D.bool false])) (0 + 1 + 1 + 1 + 1 + 1 + 1)))))))]) k' then some (D.int IntKind.i64 (D.iVal (getO (h (D.agg [D.int IntKind.i64 (D.iVal (D.cAt (getO (plM T (D.agg [D.int IntKind.i64 (D.iVal (D.cAt (D.nth (List.map ixD L) (Int.toNat k)) 0)), D.int IntKind.i64 (D.iVal (D.cAt (D.nth (List.map ixD L) (Int.toNat k)) (0 + 1))), D.int IntKind.i64 (D.iVal (D.cAt (D.nth (List.map ixD L) (Int.toNat k)) (0 + 1 + 1)))])) (D.agg [D.int IntKind.i64 (0 : Int), D.int IntKind.i64 (0 : Int), D.int IntKind.i64 (0 : Int), D.int IntKind.i64 (0 : Int), D.int IntKind.i64 (0 : Int), D.int IntKind.i64 (0 : Int), D.str (Array.toList (ByteArray.data (ByteArray.mk #[]))), D.bool false])) (0 + 1 + 1 + 1))), D.int IntKind.i64 (D.iVal (D.cAt (getO (plM T (D.agg [D.int IntKind.i64 (D.iVal (D.cAt (D.nth (List.map ixD L) (Int.toNat k)) 0)), D.int IntKind.i64 (D.iVal (D.cAt (D.nth (List.map ixD L) (Int.toNat k)) (0 + 1))), D.int IntKind.i64 (D.iVal (D.cAt (D.nth (List.map ixD L) (Int.toNat k)) (0 + 1 + 1)))])) (D.agg [D.int IntKind.i64 (0 : Int), D.int IntKind.i64 (0 : Int), D.int IntKind.i64 (0 : Int), D.int IntKind.i64 (0 : Int), D.int IntKind.i64 (0 : Int), D.int IntKind.i64 (0 : Int), D.str (Array.toList (ByteArray.data (ByteArray.mk #[]))), D.bool false])) (0 + 1 + 1 + 1 + 1))), D.int IntKind.i64 (D.iVal (D.cAt (getO (plM T (D.agg [D.int IntKind.i64 (D.iVal (D.cAt (D.nth (List.map ixD L) (Int.toNat k)) 0)), D.int IntKind.i64 (D.iVal (D.cAt (D.nth (List.map ixD L) (Int.toNat k)) (0 + 1))), D.int IntKind.i64 (D.iVal (D.cAt (D.nth (List.map ixD L) (Int.toNat k)) (0 + 1 + 1)))])) (D.agg [D.int IntKind.i64 (0 : Int), D.int IntKind.i64 (0 : Int), D.int IntKind.i64 (0 : Int), D.int IntKind.i64 (0 : Int), D.int IntKind.i64 (0 : Int), D.int IntKind.i64 (0 : Int), D.str (Array.toList (ByteArray.data (ByteArray.mk #[]))), D.bool false])) (0 + 1 + 1 + 1 + 1 + 1))), D.str (Array.toList (ByteArray.data (ByteArray.mk (Array.mk (D.sVal (D.cAt (getO (plM T (D.agg [D.int IntKind.i64 (D.iVal (D.cAt (D.nth (List.map ixD L) (Int.toNat k)) 0)), D.int IntKind.i64 (D.iVal (D.cAt (D.nth (List.map ixD L) (Int.toNat k)) (0 + 1))), D.int IntKind.i64 (D.iVal (D.cAt (D.nth (List.map ixD L) (Int.toNat k)) (0 + 1 + 1)))])) (D.agg [D.int IntKind.i64 (0 : Int), D.int IntKind.i64 (0 : Int), D.int IntKind.i64 (0 : Int), D.int IntKind.i64 (0 : Int), D.int IntKind.i64 (0 : Int), D.int IntKind.i64 (0 : Int), D.str (Array.toList (ByteArray.data (ByteArray.mk #[]))), D.bool false])) (0 + 1 + 1 + 1 + 1 + 1 + 1)))))))])) (D.int IntKind.i64 (0 : Int))) + (1 : Int))) else updD (D.agg [D.int IntKind.i64 (D.iVal (D.cAt (getO (plM T (D.agg [D.int IntKind.i64 (D.iVal (D.cAt (D.nth (List.map ixD L) (Int.toNat k)) 0)), D.int IntKind.i64 (D.iVal (D.cAt (D.nth (List.map ixD L) (Int.toNat k)) (0 + 1))), D.int IntKind.i64 (D.iVal (D.cAt (D.nth (List.map ixD L) (Int.toNat k)) (0 + 1 + 1)))])) (D.agg [D.int IntKind.i64 (0 : Int), D.int IntKind.i64 (0 : Int), D.int IntKind.i64 (0 : Int), D.int IntKind.i64 (0 : Int), D.int IntKind.i64 (0 : Int), D.int IntKind.i64 (0 : Int), D.str (Array.toList (ByteArray.data (ByteArray.mk #[]))), D.bool false])) (0 + 1 + 1 + 1))), D.int IntKind.i64 (D.iVal (D.cAt (getO (plM T (D.agg [D.int IntKind.i64 (D.iVal (D.cAt (D.nth (List.map ixD L) (Int.toNat k)) 0)), D.int IntKind.i64 (D.iVal (D.cAt (D.nth (List.map ixD L) (Int.toNat k)) (0 + 1))), D.int IntKind.i64 (D.iVal (D.cAt (D.nth (List.map ixD L) (Int.toNat k)) (0 + 1 + 1)))])) (D.agg [D.int IntKind.i64 (0 : Int), D.int IntKind.i64 (0 : Int), D.int IntKind.i64 (0 : Int), D.int IntKind.i64 (0 : Int), D.int IntKind.i64 (0 : Int), D.int IntKind.i64 (0 : Int), D.str (Array.toList (ByteArray.data (ByteArray.mk #[]))), D.bool false])) (0 + 1 + 1 + 1 + 1))), D.int IntKind.i64 (D.iVal (D.cAt (getO (plM T (D.agg [D.int IntKind.i64 (D.iVal (D.cAt (D.nth (List.map ixD L) (Int.toNat k)) 0)), D.int IntKind.i64 (D.iVal (D.cAt (D.nth (List.map ixD L) (Int.toNat k)) (0 + 1))), D.int IntKind.i64 (D.iVal (D.cAt (D.nth (List.map ixD L) (Int.toNat k)) (0 + 1 + 1)))])) (D.agg [D.int IntKind.i64 (0 : Int), D.int IntKind.i64 (0 : Int), D.int IntKind.i64 (0 : Int), D.int IntKind.i64 (0 : Int), D.int IntKind.i64 (0 : Int), D.int IntKind.i64 (0 : Int), D.str (Array.toList (ByteArray.data (ByteArray.mk #[]))), D.bool false])) (0 + 1 + 1 + 1 + 1 + 1))), D.str (Array.toList (ByteArray.data (ByteArray.mk (Array.mk (D.sVal (D.cAt (getO (plM T (D.agg [D.int IntKind.i64 (D.iVal (D.cAt (D.nth (List.map ixD L) (Int.toNat k)) 0)), D.int IntKind.i64 (D.iVal (D.cAt (D.nth (List.map ixD L) (Int.toNat k)) (0 + 1))), D.int IntKind.i64 (D.iVal (D.cAt (D.nth (List.map ixD L) (Int.toNat k)) (0 + 1 + 1)))])) (D.agg [D.int IntKind.i64 (0 : Int), D.int IntKind.i64 (0 : Int), D.int IntKind.i64 (0 : Int), D.int IntKind.i64 (0 : Int), D.int IntKind.i64 (0 : Int), D.int IntKind.i64 (0 : Int), D.str (Array.toList (ByteArray.data (ByteArray.mk #[]))), D.bool false])) (0 + 1 + 1 + 1 + 1 + 1 + 1)))))))]) (getO (h (D.agg [D.int IntKind.i64 (D.iVal (D.cAt (getO (plM T (D.agg [D.int IntKind.i64 (D.iVal (D.cAt (D.nth (List.map ixD L) (Int.toNat k)) 0)), D.int IntKind.i64 (D.iVal (D.cAt (D.nth (List.map ixD L) (Int.toNat k)) (0 + 1))), D.int IntKind.i64 (D.iVal (D.cAt (D.nth (List.map ixD L) (Int.toNat k)) (0 + 1 + 1)))])) (D.agg [D.int IntKind.i64 (0 : Int), D.int IntKind.i64 (0 : Int), D.int IntKind.i64 (0 : Int), D.int IntKind.i64 (0 : Int), D.int IntKind.i64 (0 : Int), D.int IntKind.i64 (0 : Int), D.str (Array.toList (ByteArray.data (ByteArray.mk #[]))), D.bool false])) (0 + 1 + 1 + 1))), D.int IntKind.i64 (D.iVal (D.cAt (getO (plM T (D.agg [D.int IntKind.i64 (D.iVal (D.cAt (D.nth (List.map ixD L) (Int.toNat k)) 0)), D.int IntKind.i64 (D.iVal (D.cAt (D.nth (List.map ixD L) (Int.toNat k)) (0 + 1))), D.int IntKind.i64 (D.iVal (D.cAt (D.nth (List.map ixD L) (Int.toNat k)) (0 + 1 + 1)))])) (D.agg [D.int IntKind.i64 (0 : Int), D.int IntKind.i64 (0 : Int), D.int IntKind.i64 (0 : Int), D.int IntKind.i64 (0 : Int), D.int IntKind.i64 (0 : Int), D.int IntKind.i64 (0 : Int), D.str (Array.toList (ByteArray.data (ByteArray.mk #[]))), D.bool false])) (0 + 1 + 1 + 1 + 1))), D.int IntKind.i64 (D.iVal (D.cAt (getO (plM T (D.agg [D.int IntKind.i64 (D.iVal (D.cAt (D.nth (List.map ixD L) (Int.toNat k)) 0)), D.int IntKind.i64 (D.iVal (D.cAt (D.nth (List.map ixD L) (Int.toNat k)) (0 + 1))), D.int IntKind.i64 (D.iVal (D.cAt (D.nth (List.map ixD L) (Int.toNat k)) (0 + 1 + 1)))])) (D.agg [D.int IntKind.i64 (0 : Int), D.int IntKind.i64 (0 : Int), D.int IntKind.i64 (0 : Int), D.int IntKind.i64 (0 : Int), D.int IntKind.i64 (0 : Int), D.int IntKind.i64 (0 : Int), D.str (Array.toList (ByteArray.data (ByteArray.mk #[]))), D.bool false])) (0 + 1 + 1 + 1 + 1 + 1))), D.str (Array.toList (ByteArray.data (ByteArray.mk (Array.mk (D.sVal (D.cAt (getO (plM T (D.agg [D.int IntKind.i64 (D.iVal (D.cAt (D.nth (List.map ixD L) (Int.toNat k)) 0)), D.int IntKind.i64 (D.iVal (D.cAt (D.nth (List.map ixD L) (Int.toNat k)) (0 + 1))), D.int IntKind.i64 (D.iVal (D.cAt (D.nth (List.map ixD L) (Int.toNat k)) (0 + 1 + 1)))])) (D.agg [D.int IntKind.i64 (0 : Int), D.int IntKind.i64 (0 : Int), D.int IntKind.i64 (0 : Int), D.int IntKind.i64 (0 : Int), D.int IntKind.i64 (0 : Int), D.int IntKind.i64 (0 : Int), D.str (Array.toList (ByteArray.data (ByteArray.mk #[]))), D.bool false])) (0 + 1 + 1 + 1 + 1 + 1 + 1)))))))])) (D.int IntKind.i64 (0 : Int))) h k') (bif Option.isSome (h (D.agg [D.int IntKind.i64 (D.iVal (D.cAt (getO (plM T (D.agg [D.int IntKind.i64 (D.iVal (D.cAt (D.nth (List.map ixD L) (Int.toNat k)) 0)), D.int IntKind.i64 (D.iVal (D.cAt (D.nth (List.map ixD L) (Int.toNat k)) 1)), D.int IntKind.i64 (D.iVal (D.cAt (D.nth (List.map ixD L) (Int.toNat k)) 2))])) (D.agg [D.int IntKind.i64 (0 : Int), D.int IntKind.i64 (0 : Int), D.int IntKind.i64 (0 : Int), D.int IntKind.i64 (0 : Int), D.int IntKind.i64 (0 : Int), D.int IntKind.i64 (0 : Int), D.str [], D.bool false])) 3)), D.int IntKind.i64 (D.iVal (D.cAt (getO (plM T (D.agg [D.int IntKind.i64 (D.iVal (D.cAt (D.nth (List.map ixD L) (Int.toNat k)) 0)), D.int IntKind.i64 (D.iVal (D.cAt (D.nth (List.map ixD L) (Int.toNat k)) 1)), D.int IntKind.i64 (D.iVal (D.cAt (D.nth (List.map ixD L) (Int.toNat k)) 2))])) (D.agg [D.int IntKind.i64 (0 : Int), D.int IntKind.i64 (0 : Int), D.int IntKind.i64 (0 : Int), D.int IntKind.i64 (0 : Int), D.int IntKind.i64 (0 : Int), D.int IntKind.i64 (0 : Int), D.str [], D.bool false])) 4)), D.int IntKind.i64 (D.iVal (D.cAt (getO (plM T (D.agg [D.int IntKind.i64 (D.iVal (D.cAt (D.nth (List.map ixD L) (Int.toNat k)) 0)), D.int IntKind.i64 (D.iVal (D.cAt (D.nth (List.map ixD L) (Int.toNat k)) 1)), D.int IntKind.i64 (D.iVal (D.cAt (D.nth (List.map ixD L) (Int.toNat k)) 2))])) (D.agg [D.int IntKind.i64 (0 : Int), D.int IntKind.i64 (0 : Int), D.int IntKind.i64 (0 : Int), D.int IntKind.i64 (0 : Int), D.int IntKind.i64 (0 : Int), D.int IntKind.i64 (0 : Int), D.str [], D.bool false])) 5)), D.str (D.sVal (D.cAt (getO (plM T (D.agg [D.int IntKind.i64 (D.iVal (D.cAt (D.nth (List.map ixD L) (Int.toNat k)) 0)), D.int IntKind.i64 (D.iVal (D.cAt (D.nth (List.map ixD L) (Int.toNat k)) 1)), D.int IntKind.i64 (D.iVal (D.cAt (D.nth (List.map ixD L) (Int.toNat k)) 2))])) (D.agg [D.int IntKind.i64 (0 : Int), D.int IntKind.i64 (0 : Int), D.int IntKind.i64 (0 : Int), D.int IntKind.i64 (0 : Int), D.int IntKind.i64 (0 : Int), D.int IntKind.i64 (0 : Int), D.str [], D.bool false])) 6))])) then c else c + (1 : Int)) false)), (6, En.mk 0 none (Obj.arr 41 false (List.map ixD L)))]) else False else False else False else False else False else False else False else False else post (PX.exit 0, S.mk 56 [(0, P.ref 0 0 0)] [(0, En.mk 0 (some 0) (Obj.box 61 [P.mp 1 0, P.mp 2 0, P.mp 3 0, P.mp 4 0])), (1, En.mk 0 (some 1) (Obj.map 41 (fun (x : D) => match x with | D.agg [D.int IntKind.i64 a, D.int IntKind.i64 b, D.int IntKind.i64 c] => Option.map plD (atPl T (a, b, c)) | _ => none) c1 false)), (2, En.mk 0 (some 2) (Obj.map 41 f2 c2 z2)), (3, En.mk 0 (some 3) (Obj.map 41 f3 c3 true)), (4, En.mk 0 (some 4) (Obj.map 41 f4 c4 false))])) = (roundLN [(51, hClash)] [] [] 28 2 (nm2 L n k h c T f2 f3 f4 c1 c2 c3 c4 z2)) post := by kernel_rfl
theorem vcNmB (T : List Pl) (f2 f3 f4 : D → Option D) (c1 c2 c3 c4 : Int) (z2 z3 : Bool) (post : P × List (Nat × En) → Prop) : (∃ (T_1 : List Pl), ∃ (V : List Id3), ∃ (f2_1 : D → Option D), ∃ (f4_1 : D → Option D), ∃ (c1_1 : Int), ∃ (c2_1 : Int), ∃ (c4_1 : Int), ∃ (z2_1 : Bool), ∃ (z3_1 : Bool), [P.ref 0 0 0] = [P.ref 0 0 0] ∧ [(0, En.mk 0 (some 0) (Obj.box 61 [P.mp 1 0, P.mp 2 0, P.mp 3 0, P.mp 4 0])), (1, En.mk 0 (some 1) (Obj.map 41 (fun (x : D) => match x with | D.agg [D.int IntKind.i64 a, D.int IntKind.i64 b, D.int IntKind.i64 c] => Option.map plD (atPl T (a, b, c)) | _ => none) c1 false)), (2, En.mk 0 (some 2) (Obj.map 41 f2 c2 z2)), (3, En.mk 0 (some 3) (Obj.map 41 f3 c3 z3)), (4, En.mk 0 (some 4) (Obj.map 41 f4 c4 false))] = [(0, En.mk 0 (some 0) (Obj.box 61 [P.mp 1 0, P.mp 2 0, P.mp 3 0, P.mp 4 0])), (1, En.mk 0 (some 1) (Obj.map 41 (fun (x : D) => match x with | D.agg [D.int IntKind.i64 a, D.int IntKind.i64 b, D.int IntKind.i64 c] => Option.map plD (atPl T_1 (a, b, c)) | _ => none) c1_1 false)), (2, En.mk 0 (some 2) (Obj.map 41 f2_1 c2_1 z2_1)), (3, En.mk 0 (some 3) (Obj.map 41 (fun (x : D) => match x with | D.agg [D.int IntKind.i64 a, D.int IntKind.i64 b, D.int IntKind.i64 c] => Option.map (fun (_ : Unit) => D.agg []) ((fun (x : Id3) => if x ∈ V then some () else none) (a, b, c)) | _ => none) (↑(List.length V) : Int) z3_1)), (4, En.mk 0 (some 4) (Obj.map 41 f4_1 c4_1 false))] ∧ (List.length V ≤ 1000000 ∧ List.Nodup V) ∧ ∃ (T : List Pl), ∃ (V_1 : List Id3), ∃ (f2 : D → Option D), ∃ (f3 : D → Option D), ∃ (c1 : Int), ∃ (c2 : Int), ∃ (c3 : Int), ∃ (z2 : Bool), S.mk 56 [(0, P.ref 0 0 0), (2, P.mp 5 0), (9, P.sl 6 0 (List.length V)), (10, P.d (D.int IntKind.i64 (↑(List.length V) : Int))), (11, P.d (D.int IntKind.i64 (0 : Int)))] [(0, En.mk 0 (some 0) (Obj.box 61 [P.mp 1 0, P.mp 2 0, P.mp 3 0, P.mp 4 0])), (1, En.mk 0 (some 1) (Obj.map 41 (fun (x : D) => match x with | D.agg [D.int IntKind.i64 a, D.int IntKind.i64 b, D.int IntKind.i64 c] => Option.map plD (atPl T_1 (a, b, c)) | _ => none) c1_1 false)), (2, En.mk 0 (some 2) (Obj.map 41 f2_1 c2_1 z2_1)), (3, En.mk 0 (some 3) (Obj.map 41 (fun (x : D) => match x with | D.agg [D.int IntKind.i64 a, D.int IntKind.i64 b, D.int IntKind.i64 c] => Option.map (fun (_ : Unit) => D.agg []) ((fun (x : Id3) => if x ∈ V then some () else none) (a, b, c)) | _ => none) (↑(List.length V) : Int) true)), (4, En.mk 0 (some 4) (Obj.map 41 f4_1 c4_1 false)), (5, En.mk 0 none (Obj.map 86 (fun (_ : D) => none) (0 : Int) false)), (6, En.mk 0 none (Obj.arr 41 false (List.map ixD (sortI ltX V))))] = S.mk 56 [(0, P.ref 0 0 0), (2, P.mp 5 0), (9, P.sl 6 0 (List.length (seenI T V_1))), (10, P.d (D.int IntKind.i64 (↑(List.length (seenI T V_1)) : Int))), (11, P.d (D.int IntKind.i64 (0 : Int)))] [(0, En.mk 0 (some 0) (Obj.box 61 [P.mp 1 0, P.mp 2 0, P.mp 3 0, P.mp 4 0])), (1, En.mk 0 (some 1) (Obj.map 41 (fun (x : D) => match x with | D.agg [D.int IntKind.i64 a, D.int IntKind.i64 b, D.int IntKind.i64 c] => Option.map plD (atPl T (a, b, c)) | _ => none) c1 false)), (2, En.mk 0 (some 2) (Obj.map 41 f2 c2 z2)), (3, En.mk 0 (some 3) (Obj.map 41 f3 c3 true)), (4, En.mk 0 (some 4) (Obj.map 41 (fun (_ : D) => none) (0 : Int) false)), (5, En.mk 0 none (Obj.map 86 (fun (_ : D) => none) (0 : Int) false)), (6, En.mk 0 none (Obj.arr 41 false (List.map ixD (sortI ltX (seenI T V_1)))))] ∧ (List.length T ≤ 1000000 ∧ Rt T) ∧ post (P.tup [], [(0, En.mk 0 (some 0) (Obj.box 61 [P.mp 1 0, P.mp 2 0, P.mp 3 0, P.mp 4 0])), (1, En.mk 0 (some 1) (Obj.map 41 (fun (x : D) => match x with | D.agg [D.int IntKind.i64 a, D.int IntKind.i64 b, D.int IntKind.i64 c] => Option.map plD (atPl T (a, b, c)) | _ => none) c1 false)), (2, En.mk 0 (some 2) (Obj.map 41 f2 c2 z2)), (3, En.mk 0 (some 3) (Obj.map 41 f3 c3 true)), (4, En.mk 0 (some 4) (Obj.map 41 (fun (x : D) => match x with | D.agg [D.int IntKind.i64 a, D.int IntKind.i64 b, D.int IntKind.i64 c] => Option.map D.str ((fun (x : Id3) => if x ∈ seenI T V_1 then some (nmX T V_1 x) else none) (a, b, c)) | _ => none) (↑(List.length (seenI T V_1)) : Int) false))])) = (bodyFN [] [(50, hRising)] [(2, loopHook (kpF 28 2) gNm2)] 28 [.ref 0 0 0] (nodT (plM T) f2 f3 f4 c1 c2 c3 c4 z2 z3)) post := by kernel_rfl
def hNames : KF1 := fun ps R post => ∃ T V f2 c1 c2 z2 z3, ps = [.ref 0 0 0] ∧ R = nodT (plM T) f2 (inM (seenI T V)) noM c1 c2 ((seenI T V).length : Int) 0 z2 z3 ∧ (T.length ≤ 1000000 ∧ Rt T) ∧
  post (.tup [], nodT (plM T) f2 (inM (seenI T V)) (asM T V (seenI T V)) c1 c2 ((seenI T V).length : Int) ((seenI T V).length : Int) z2 true)
/-! path -/
abbrev pt4 (w : List Id3) (n : Nat) (k : Int) (o : List D) (f1 f2 f3 f4 : D → Option D) (c1 c2 c3 c4 : Int) (z2 z3 : Bool) : S :=
  ⟨42, [(0, .ref 0 0 0), (5, .sl 5 0 n), (7, .sl 6 0 n), (19, .sl 5 0 n), (20, iD n), (21, iD k)], nodT f1 f2 f3 f4 c1 c2 c3 c4 z2 z3 ++ [(5, ⟨0, none, .arr 41 false (w.map ixD)⟩), (6, ⟨0, none, .arr 9 false o⟩)]⟩
def gPt4 : S → K (PX × S) := fun s post => ∃ w nm f1 f2 f3 f4 c1 c2 c3 c4 z2 z3, s = pt4 w w.length 0 (List.replicate w.length (.str [])) f1 f2 f3 f4 c1 c2 c3 c4 z2 z3 ∧ (w.length ≤ 1000000 ∧ ∀ u ∈ w, f4 (ixD u) = some (.str (nm u))) ∧
  post (.exit 0, ⟨42, [(0, .ref 0 0 0), (7, .sl 5 0 w.length)], nodT f1 f2 f3 f4 c1 c2 c3 c4 z2 z3 ++ [(5, ⟨0, none, .arr 9 false ((w.reverse.map nm).map D.str)⟩)]⟩)
theorem vcPt4 (w : List Id3) (n : Nat) (k : Int) (o : List D) (f1 f2 f3 f4 : D → Option D) (c1 c2 c3 c4 : Int) (z2 z3 : Bool) (post : PX × S → Prop) : (bif decide (k < (↑n : Int)) then bif decide ((0 : Int) ≤ k ∧ k < (↑n : Int)) then bif decide (Int.toNat k < List.length (List.map ixD w)) then bif isD PR (41 : TypeId) (D.nth (List.map ixD w) (Int.toNat k)) then bif decide ((-9223372036854775808 : Int) ≤ (↑n : Int) - (1 : Int) ∧ (↑n : Int) - (1 : Int) ≤ (9223372036854775807 : Int)) then bif decide ((-9223372036854775808 : Int) ≤ (↑n : Int) - (1 : Int) - k ∧ (↑n : Int) - (1 : Int) - k ≤ (9223372036854775807 : Int)) then bif isD PR 9 (getO (f4 (D.agg [D.int IntKind.i64 (D.iVal (D.cAt (D.nth (List.map ixD w) (Int.toNat k)) 0)), D.int IntKind.i64 (D.iVal (D.cAt (D.nth (List.map ixD w) (Int.toNat k)) 1)), D.int IntKind.i64 (D.iVal (D.cAt (D.nth (List.map ixD w) (Int.toNat k)) 2))])) (D.str [])) then bif decide ((0 : Int) ≤ (↑n : Int) - (1 : Int) - k ∧ (↑n : Int) - (1 : Int) - k < (↑n : Int)) then bif decide (Int.toNat ((↑n : Int) - (1 : Int) - k) < List.length o) then bif isD PR (9 : TypeId) (D.nth o (Int.toNat ((↑n : Int) - (1 : Int) - k))) then bif decide ((-9223372036854775808 : Int) ≤ k + (1 : Int) ∧ k + (1 : Int) ≤ (9223372036854775807 : Int)) then post (PX.normal, S.mk 42 [(0, P.ref 0 0 0), (5, P.sl 5 0 n), (7, P.sl 6 0 n), (19, P.sl 5 0 n), (20, P.d (D.int IntKind.i64 (↑n : Int))), (21, P.d (D.int IntKind.i64 (k + (1 : Int))))] [(0, En.mk 0 (some 0) (Obj.box 61 [P.mp 1 0, P.mp 2 0, P.mp 3 0, P.mp 4 0])), (1, En.mk 0 (some 1) (Obj.map 41 f1 c1 false)), (2, En.mk 0 (some 2) (Obj.map 41 f2 c2 z2)), (3, En.mk 0 (some 3) (Obj.map 41 f3 c3 z3)), (4, En.mk 0 (some 4) (Obj.map 41 f4 c4 false)), (5, En.mk 0 none (Obj.arr 41 false (List.map ixD w))), (6, En.mk 0 none (Obj.arr 9 false (List.set o (Int.toNat ((↑n : Int) - (1 : Int) - k)) (D.withCells (D.str (D.sVal (D.nth o (Int.toNat ((↑n : Int) - (1 : Int) - k))))) [D.str (D.sVal (getO (f4 (D.agg [D.int IntKind.i64 (D.iVal (D.cAt (D.nth (List.map ixD w) (Int.toNat k)) 0)), D.int IntKind.i64 (D.iVal (D.cAt (D.nth (List.map ixD w) (Int.toNat k)) 1)), D.int IntKind.i64 (D.iVal (D.cAt (D.nth (List.map ixD w) (Int.toNat k)) 2))])) (D.str [])))]))))]) else False else False else False else False else False else False else False else False else False else False else post (PX.exit 0, S.mk 42 [(0, P.ref 0 0 0), (7, P.sl 5 0 n)] [(0, En.mk 0 (some 0) (Obj.box 61 [P.mp 1 0, P.mp 2 0, P.mp 3 0, P.mp 4 0])), (1, En.mk 0 (some 1) (Obj.map 41 f1 c1 false)), (2, En.mk 0 (some 2) (Obj.map 41 f2 c2 z2)), (3, En.mk 0 (some 3) (Obj.map 41 f3 c3 z3)), (4, En.mk 0 (some 4) (Obj.map 41 f4 c4 false)), (5, En.mk 0 none (Obj.arr 9 false o))])) = (roundL [] [] 29 4 (pt4 w n k o f1 f2 f3 f4 c1 c2 c3 c4 z2 z3)) post := by kernel_rfl
theorem vcPt (T : List Pl) (x : Id3) (f2 f3 f4 : D → Option D) (c1 c2 c3 c4 : Int) (z2 z3 : Bool) (post : P × List (Nat × En) → Prop) : (∃ (T_1 : List Pl), ∃ (x_1 : Id3), ∃ (f2_1 : D → Option D), ∃ (f3_1 : D → Option D), ∃ (f4_1 : D → Option D), ∃ (c2_1 : Int), ∃ (c3_1 : Int), ∃ (c4_1 : Int), ∃ (z2_1 : Bool), ∃ (z3_1 : Bool), [P.ref 0 0 0, P.d (D.agg [D.int IntKind.i64 (Prod.fst x), D.int IntKind.i64 (Prod.fst (Prod.snd x)), D.int IntKind.i64 (Prod.snd (Prod.snd x))])] = [P.ref 0 0 0, P.d (D.agg [D.int IntKind.i64 (Prod.fst x_1), D.int IntKind.i64 (Prod.fst (Prod.snd x_1)), D.int IntKind.i64 (Prod.snd (Prod.snd x_1))])] ∧ [(0, En.mk 0 (some 0) (Obj.box 61 [P.mp 1 0, P.mp 2 0, P.mp 3 0, P.mp 4 0])), (1, En.mk 0 (some 1) (Obj.map 41 (fun (x : D) => match x with | D.agg [D.int IntKind.i64 a, D.int IntKind.i64 b, D.int IntKind.i64 c] => Option.map plD (atPl T (a, b, c)) | _ => none) c1 false)), (2, En.mk 0 (some 2) (Obj.map 41 f2 c2 z2)), (3, En.mk 0 (some 3) (Obj.map 41 f3 c3 z3)), (4, En.mk 0 (some 4) (Obj.map 41 f4 c4 false))] = [(0, En.mk 0 (some 0) (Obj.box 61 [P.mp 1 0, P.mp 2 0, P.mp 3 0, P.mp 4 0])), (1, En.mk 0 (some 1) (Obj.map 41 (fun (x : D) => match x with | D.agg [D.int IntKind.i64 a, D.int IntKind.i64 b, D.int IntKind.i64 c] => Option.map plD (atPl T_1 (a, b, c)) | _ => none) (↑(List.length T_1) : Int) false)), (2, En.mk 0 (some 2) (Obj.map 41 f2_1 c2_1 z2_1)), (3, En.mk 0 (some 3) (Obj.map 41 f3_1 c3_1 z3_1)), (4, En.mk 0 (some 4) (Obj.map 41 f4_1 c4_1 false))] ∧ List.length T_1 ≤ 1000000 ∧ (∀ (l : List Id3), wy T_1 x_1 = some l → bif decide ((0 : Int) ≤ (↑(List.length l) : Int) ∧ (↑(List.length l) : Int) ≤ (↑(List.length l) : Int) ∧ (↑(List.length l) : Int) ≤ (9223372036854775807 : Int) ∧ (↑16 : Int) * (↑(List.length l) : Int) ≤ (281474976710656 : Int)) then ∃ (w : List Id3), ∃ (nm : Id3 → List UInt8), ∃ (f1 : D → Option D), ∃ (f2 : D → Option D), ∃ (f3 : D → Option D), ∃ (f4 : D → Option D), ∃ (c1 : Int), ∃ (c2 : Int), ∃ (c3 : Int), ∃ (c4 : Int), ∃ (z2 : Bool), ∃ (z3 : Bool), S.mk 42 [(0, P.ref 0 0 0), (5, P.sl 5 0 (List.length l)), (7, P.sl 6 0 (List.length l)), (19, P.sl 5 0 (List.length l)), (20, P.d (D.int IntKind.i64 (↑(List.length l) : Int))), (21, P.d (D.int IntKind.i64 (0 : Int)))] [(0, En.mk 0 (some 0) (Obj.box 61 [P.mp 1 0, P.mp 2 0, P.mp 3 0, P.mp 4 0])), (1, En.mk 0 (some 1) (Obj.map 41 (fun (x : D) => match x with | D.agg [D.int IntKind.i64 a, D.int IntKind.i64 b, D.int IntKind.i64 c] => Option.map plD (atPl T_1 (a, b, c)) | _ => none) (↑(List.length T_1) : Int) false)), (2, En.mk 0 (some 2) (Obj.map 41 f2_1 c2_1 z2_1)), (3, En.mk 0 (some 3) (Obj.map 41 f3_1 c3_1 z3_1)), (4, En.mk 0 (some 4) (Obj.map 41 f4_1 c4_1 false)), (5, En.mk 0 none (Obj.arr 41 false (List.map ixD l))), (6, En.mk 0 none (Obj.arr 9 false (List.replicate (List.length l) (D.str []))))] = S.mk 42 [(0, P.ref 0 0 0), (5, P.sl 5 0 (List.length w)), (7, P.sl 6 0 (List.length w)), (19, P.sl 5 0 (List.length w)), (20, P.d (D.int IntKind.i64 (↑(List.length w) : Int))), (21, P.d (D.int IntKind.i64 (0 : Int)))] [(0, En.mk 0 (some 0) (Obj.box 61 [P.mp 1 0, P.mp 2 0, P.mp 3 0, P.mp 4 0])), (1, En.mk 0 (some 1) (Obj.map 41 f1 c1 false)), (2, En.mk 0 (some 2) (Obj.map 41 f2 c2 z2)), (3, En.mk 0 (some 3) (Obj.map 41 f3 c3 z3)), (4, En.mk 0 (some 4) (Obj.map 41 f4 c4 false)), (5, En.mk 0 none (Obj.arr 41 false (List.map ixD w))), (6, En.mk 0 none (Obj.arr 9 false (List.replicate (List.length w) (D.str []))))] ∧ (List.length w ≤ 1000000 ∧ ∀ (u : Id3), u ∈ w → f4 (ixD u) = some (D.str (nm u))) ∧ ∃ (l : List (List UInt8)), [P.d (D.sl 1 (List.take (List.length w) (List.map D.str (List.map nm (List.reverse w)))))] = [P.d (D.sl 1 (List.map D.str l))] ∧ EqR [] [] ∧ sumL l ≤ 2000000 ∧ post (P.d (D.str (joinP l)), [(0, En.mk 0 (some 0) (Obj.box 61 [P.mp 1 0, P.mp 2 0, P.mp 3 0, P.mp 4 0])), (1, En.mk 0 (some 1) (Obj.map 41 f1 c1 false)), (2, En.mk 0 (some 2) (Obj.map 41 f2 c2 z2)), (3, En.mk 0 (some 3) (Obj.map 41 f3 c3 z3)), (4, En.mk 0 (some 4) (Obj.map 41 f4 c4 false))]) else False) ∧ (wy T_1 x_1 = none → ∃ (w : List Id3), ∃ (nm : Id3 → List UInt8), ∃ (f1 : D → Option D), ∃ (f2 : D → Option D), ∃ (f3 : D → Option D), ∃ (f4 : D → Option D), ∃ (c1 : Int), ∃ (c2 : Int), ∃ (c3 : Int), ∃ (c4 : Int), ∃ (z2 : Bool), ∃ (z3 : Bool), S.mk 42 [(0, P.ref 0 0 0), (5, P.sl 5 0 0), (7, P.sl 6 0 0), (19, P.sl 5 0 0), (20, P.d (D.int IntKind.i64 (0 : Int))), (21, P.d (D.int IntKind.i64 (0 : Int)))] [(0, En.mk 0 (some 0) (Obj.box 61 [P.mp 1 0, P.mp 2 0, P.mp 3 0, P.mp 4 0])), (1, En.mk 0 (some 1) (Obj.map 41 (fun (x : D) => match x with | D.agg [D.int IntKind.i64 a, D.int IntKind.i64 b, D.int IntKind.i64 c] => Option.map plD (atPl T_1 (a, b, c)) | _ => none) (↑(List.length T_1) : Int) false)), (2, En.mk 0 (some 2) (Obj.map 41 f2_1 c2_1 z2_1)), (3, En.mk 0 (some 3) (Obj.map 41 f3_1 c3_1 z3_1)), (4, En.mk 0 (some 4) (Obj.map 41 f4_1 c4_1 false)), (5, En.mk 0 none (Obj.arr 41 false [])), (6, En.mk 0 none (Obj.arr 9 false []))] = S.mk 42 [(0, P.ref 0 0 0), (5, P.sl 5 0 (List.length w)), (7, P.sl 6 0 (List.length w)), (19, P.sl 5 0 (List.length w)), (20, P.d (D.int IntKind.i64 (↑(List.length w) : Int))), (21, P.d (D.int IntKind.i64 (0 : Int)))] [(0, En.mk 0 (some 0) (Obj.box 61 [P.mp 1 0, P.mp 2 0, P.mp 3 0, P.mp 4 0])), (1, En.mk 0 (some 1) (Obj.map 41 f1 c1 false)), (2, En.mk 0 (some 2) (Obj.map 41 f2 c2 z2)), (3, En.mk 0 (some 3) (Obj.map 41 f3 c3 z3)), (4, En.mk 0 (some 4) (Obj.map 41 f4 c4 false)), (5, En.mk 0 none (Obj.arr 41 false (List.map ixD w))), (6, En.mk 0 none (Obj.arr 9 false (List.replicate (List.length w) (D.str []))))] ∧ (List.length w ≤ 1000000 ∧ ∀ (u : Id3), u ∈ w → f4 (ixD u) = some (D.str (nm u))) ∧ ∃ (l : List (List UInt8)), [P.d (D.sl 1 (List.take (List.length w) (List.map D.str (List.map nm (List.reverse w)))))] = [P.d (D.sl 1 (List.map D.str l))] ∧ EqR [] [] ∧ sumL l ≤ 2000000 ∧ post (P.d (D.str (joinP l)), [(0, En.mk 0 (some 0) (Obj.box 61 [P.mp 1 0, P.mp 2 0, P.mp 3 0, P.mp 4 0])), (1, En.mk 0 (some 1) (Obj.map 41 f1 c1 false)), (2, En.mk 0 (some 2) (Obj.map 41 f2 c2 z2)), (3, En.mk 0 (some 3) (Obj.map 41 f3 c3 z3)), (4, En.mk 0 (some 4) (Obj.map 41 f4 c4 false))]))) = (bodyF [(49, hWay), (52, hJoinP)] [(4, loopHook (kpF 29 4) gPt4)] 29 [.ref 0 0 0, .d (ixD x)] (nodT (plM T) f2 f3 f4 c1 c2 c3 c4 z2 z3)) post := by kernel_rfl
def hPath : KF1 := fun ps R post => ∃ T x w nm f2 f3 f4 c2 c3 c4 z2 z3, ps = [.ref 0 0 0, .d (ixD x)] ∧ R = nodT (plM T) f2 f3 f4 (T.length : Int) c2 c3 c4 z2 z3 ∧ (T.length ≤ 1000000 ∧ Up T x w ∧ (∀ u ∈ w, f4 (ixD u) = some (.str (nm u))) ∧ sumL (w.reverse.map nm) ≤ 2000000) ∧
  post (sD (joinR (w.reverse.map nm)), nodT (plM T) f2 f3 f4 (T.length : Int) c2 c3 c4 z2 z3)
end Pi

/- Tree: name, path. -/
namespace Pi
open Go Go.Proofs
set_option maxRecDepth 100000
theorem joinR_P' {l : List (List UInt8)} (h : l ≠ []) : joinP l = joinR l := (joinR_P l h).symm
theorem set_mid (m : Nat) (a b : List (List UInt8)) (v : List UInt8) (h : a.length = m) (x : List UInt8) : ((a ++ x :: b).map D.str).set m (.str v) = (a ++ v :: b).map D.str := by
  subst h
  simp
section
variable {X : XF}
theorem loopPt4 : LD X 29 4 (loopHook (kpF 29 4) gPt4) := LD.par (H := []) (hk := []) (by kernel_rfl) (by kernel_rfl) .nil .nil
  (A := List Id3 × (Id3 → List UInt8) × (D → Option D) × (D → Option D) × (D → Option D) × (D → Option D) × Int × Int × Int × Int × Bool × Bool) (B := Int)
  (fun ⟨w, nm, f1, f2, f3, f4, c1, c2, c3, c4, z2, z3⟩ k => pt4 w w.length k ((List.replicate (w.length - k.toNat) [] ++ (w.take k.toNat).reverse.map nm).map D.str) f1 f2 f3 f4 c1 c2 c3 c4 z2 z3)
  (fun ⟨w, nm, _, _, _, f4, _⟩ k => w.length ≤ 1000000 ∧ 0 ≤ k ∧ k ≤ w.length ∧ ∀ u ∈ w, f4 (ixD u) = some (.str (nm u)))
  (fun ⟨w, _⟩ k => (w.length - k).toNat)
  (fun ⟨w, nm, f1, f2, f3, f4, c1, c2, c3, c4, z2, z3⟩ x => x = (.exit 0, ⟨42, [(0, .ref 0 0 0), (7, .sl 5 0 w.length)], nodT f1 f2 f3 f4 c1 c2 c3 c4 z2 z3 ++ [(5, ⟨0, none, .arr 9 false ((w.reverse.map nm).map D.str)⟩)]⟩))
  (by
    rintro ⟨w, nm, f1, f2, f3, f4, c1, c2, c3, c4, z2, z3⟩ k ⟨hm, h0, hk, hf⟩
    dsimp only at *
    rw [← vcPt4]
    refine condP (fun h => ?_) fun h => ?_
    · have hk' : k.toNat < w.length := by omega
      rw [ix_nth hk']
      have hu : w.getD k.toNat (0, 0, 0) ∈ w := by
        rw [List.getD_eq_getElem?_getD, List.getElem?_eq_getElem hk']
        exact List.getElem_mem hk'
      have hf' := hf _ hu
      generalize hge : w.getD k.toNat (0, 0, 0) = u at hf' hu
      have hf2 : f4 (D.agg [D.int IntKind.i64 (D.iVal (D.cAt (ixD u) 0)), D.int IntKind.i64 (D.iVal (D.cAt (ixD u) 1)), D.int IntKind.i64 (D.iVal (D.cAt (ixD u) 2))]) = some (.str (nm u)) := hf'
      simp only [hf2]
      have em : ((w.length : Int) - 1 - k).toNat = w.length - 1 - k.toNat := by omega
      rw [em]
      have er : w.length - k.toNat = (w.length - 1 - k.toNat) + 1 := by omega
      have eo : (List.replicate (w.length - k.toNat) [] ++ (w.take k.toNat).reverse.map nm) = List.replicate (w.length - 1 - k.toNat) [] ++ [] :: (w.take k.toNat).reverse.map nm := by
        rw [er, List.replicate_succ']
        simp
      rw [eo]
      refine oblP ⟨h0, h⟩ (oblI (decT (by simpa using hk')) (oblI (isIx u) (oblP ⟨by omega, by omega⟩ (oblP ⟨by omega, by omega⟩ (oblI (isDs _) (oblP ⟨by omega, by omega⟩ (oblI (decT (by simp <;> omega)) (oblI ?_ (oblI (incI (by omega) (by omega)) ?_)))))))))
      · rw [tx_nth (by simp <;> omega)]
        exact isDs _
      · refine ⟨((w.length : Int) - (k + 1)).toNat, by omega, k + 1, ?_, ⟨hm, by omega, by omega, hf⟩, rfl⟩
        have et : List.replicate (w.length - (k + 1).toNat) [] ++ (w.take (k + 1).toNat).reverse.map nm = List.replicate (w.length - 1 - k.toNat) [] ++ nm u :: (w.take k.toNat).reverse.map nm := by
          have e1 : (k + 1).toNat = k.toNat + 1 := by omega
          rw [e1, List.take_add_one, List.getElem?_eq_getElem hk']
          have : w[k.toNat] = u := by
            rw [← hge, List.getD_eq_getElem?_getD, List.getElem?_eq_getElem hk']
            rfl
          rw [this]
          simp
          omega
        have := set_mid (w.length - 1 - k.toNat) (List.replicate (w.length - 1 - k.toNat) []) ((w.take k.toNat).reverse.map nm) (nm u) (by simp) []
        show _ = pt4 w w.length (k + 1) _ f1 f2 f3 f4 c1 c2 c3 c4 z2 z3
        rw [et, ← this, tx_nth (by simp <;> omega)]
        rfl
    · have : k.toNat = w.length := by omega
      rw [this]
      simp only [Nat.sub_self, List.replicate_zero, List.nil_append, List.take_length]
      rfl)
  (by
    rintro s post ⟨w, nm, f1, f2, f3, f4, c1, c2, c3, c4, z2, z3, rfl, ⟨hm, hf⟩, hp⟩
    refine ⟨(w, nm, f1, f2, f3, f4, c1, c2, c3, c4, z2, z3), 0, ?_, ⟨hm, by simp, by simp, hf⟩, ?_⟩
    · simp
    · rintro x rfl
      exact hp)
theorem okPath : FD X 29 hPath := FD.mk (H := [(49, hWay), (52, hJoinP)]) (hk := [(4, loopHook (kpF 29 4) gPt4)]) (by kernel_rfl) (.cons okWay (.cons okJoin .nil)) (.cons loopPt4 .nil) (by
  intro ps R post hh
  obtain ⟨T, x, w, nm, f2, f3, f4, c2, c3, c4, z2, z3, h01, h02, ⟨hm, hw, hf, hs⟩, hp⟩ := hh
  subst h01
  have key : ∀ c1 : Int, c1 = (T.length : Int) → bodyF [(49, hWay), (52, hJoinP)] [(4, loopHook (kpF 29 4) gPt4)] 29 [.ref 0 0 0, .d (ixD x)] (nodT (plM T) f2 f3 f4 c1 c2 c3 c4 z2 z3) post := by
    intro c1 hc
    rw [← vcPt]
    have hl := hw.len
    refine ⟨T, x, f2, f3, f4, c2, c3, c4, z2, z3, rfl, by rw [hc], hm, fun l hl' => ?_, fun h => by rw [wy_iff.2 hw] at h; cases h⟩
    rw [wy_iff.2 hw] at hl'
    cases hl'
    refine oblP ⟨by omega, by omega, by omega, by omega⟩ ⟨w, nm, plM T, f2, f3, f4, _, c2, c3, c4, z2, z3, rfl, ⟨by omega, hf⟩, w.reverse.map nm, ?_, rfl, hs, ?_⟩
    · rw [List.take_of_length_le (by simp)]
    · rw [joinR_P' (by obtain ⟨r, rfl⟩ := hw.hd; simp)]
      exact hp
  rw [h02]
  clear hp h02
  generalize hc : (T.length : Int) = c1
  exact key c1 hc.symm)
end
end Pi

/- Tree: who is ahead of whom. -/
namespace Pi
open Go
section
variable {T : List Pl} {live : List Id3}
/-- The seen ones, rising. -/
def riseX (T : List Pl) (live : List Id3) : List Id3 := sortI ltX (seenI T live)
theorem rise_mem {x : Id3} : x ∈ riseX T live ↔ marked T live x = true := by
  unfold riseX
  rw [(sortI_perm _).mem_iff, seenI_mem]
theorem rise_len : (riseX T live).length = (seenI T live).length := (sortI_perm _).length_eq
theorem rise_nodup (hu : Uq T) : (riseX T live).Nodup := by
  unfold riseX
  rw [(sortI_perm _).nodup_iff]
  exact seenI_nodup hu live
theorem rise_lt (hu : Uq T) : (riseX T live).Pairwise fun x y => ltX x y = true := by
  refine ((sortI_pw lin_X (seenI T live)).and (rise_nodup (live := live) hu)).imp ?_
  intro x y h
  cases hl : ltX x y with
  | true => rfl
  | false => exact absurd (lin_X.tot _ _ hl h.1) h.2
/-- Places that have one's spot. -/
def spotB (p q : Pl) : Bool := decide (q.2.1 = p.2.1) && q.2.2.1 == p.2.2.1
def cntP (l : List Pl) (p : Pl) : Nat := l.countP (spotB p)
def plX (T : List Pl) (x : Id3) : Pl := (atPl T x).getD ((0, 0, 0), (0, 0, 0), [], false)
theorem plX_at {x : Id3} (h : marked T live x = true) : atPl T x = some (plX T x) := by
  obtain ⟨p, hp⟩ := marked_at h
  unfold plX
  rw [hp]
  rfl
theorem cnt_pos (hT : Rt T) {k : Nat} {x : Id3} (hx : (riseX T live)[k]? = some x) : 0 < cntP (((riseX T live).take k).map (plX T)) (plX T x) ↔ (seenL T live).any (fun q => decide (q.2.1 = (plX T x).2.1) && (q.2.2.1 == (plX T x).2.2.1) && ltX q.1 (plX T x).1) = true := by
  have hk : k < (riseX T live).length := (List.getElem?_eq_some_iff.1 hx).1
  have hxk : (riseX T live)[k] = x := (List.getElem?_eq_some_iff.1 hx).2
  have hmx : marked T live x = true := rise_mem.1 (List.mem_of_getElem? hx)
  have hpx : (plX T x).1 = x := (atPl_mem (plX_at hmx)).2
  have hlt := List.pairwise_iff_getElem.1 (rise_lt (live := live) hT.1)
  unfold cntP
  rw [List.countP_pos_iff, List.any_eq_true]
  constructor
  · rintro ⟨q, hq, hs⟩
    obtain ⟨y, hy, rfl⟩ := List.mem_map.1 hq
    obtain ⟨j, hj, hjy⟩ := List.getElem_of_mem hy
    rw [List.getElem_take] at hjy
    rw [List.length_take] at hj
    have hmy : marked T live y = true := rise_mem.1 (List.mem_of_mem_take hy)
    have hpy : (plX T y).1 = y := (atPl_mem (plX_at hmy)).2
    refine ⟨plX T y, seen_mem hmy (plX_at hmy), ?_⟩
    have := hlt j k (by omega) hk (by omega)
    rw [hjy, hxk] at this
    rw [hpx, hpy, this, Bool.and_true]
    exact hs
  · rintro ⟨q, hq, hs⟩
    simp only [Bool.and_eq_true] at hs
    obtain ⟨hqT, hqm⟩ := seen_pl hq
    have hqa : plX T q.1 = q := by
      unfold plX
      rw [atPl_of hT.1 hqT]
      rfl
    obtain ⟨j, hj, hjq⟩ := List.getElem_of_mem (rise_mem.2 hqm)
    have hjk : j < k := by
      rw [hpx, ← hxk, ← hjq] at hs
      rcases Nat.lt_trichotomy j k with h | h | h
      · exact h
      · subst h; rw [lin_X.irr] at hs; cases hs.2
      · have := lin_X.asymm (hlt k j hk hj h); rw [hs.2] at this; cases this
    refine ⟨q, List.mem_map.2 ⟨q.1, ?_, hqa⟩, ?_⟩
    · rw [← hjq]
      exact List.mem_take_iff_getElem.2 ⟨j, by omega, rfl⟩
    · unfold spotB
      rw [Bool.and_eq_true]
      exact hs.1
theorem nmX_cnt (hT : Rt T) {k : Nat} {x : Id3} (hx : (riseX T live)[k]? = some x) : nmX T live x = if 0 < cntP (((riseX T live).take k).map (plX T)) (plX T x) then (clashP (plX T x).2.2.1 (plX T x).1.1 (plX T x).1.2.1 (plX T x).1.2.2).1 else (plX T x).2.2.1 := by
  have hmx : marked T live x = true := rise_mem.1 (List.mem_of_getElem? hx)
  unfold nmX
  rw [plX_at hmx]
  simp only [nmP]
  by_cases h : 0 < cntP (((riseX T live).take k).map (plX T)) (plX T x)
  · rw [if_pos h, if_pos ((cnt_pos hT hx).1 h)]
  · rw [if_neg h, if_neg (fun h' => h ((cnt_pos hT hx).2 h'))]
/-! counts, as data -/
def hadM (l : List Pl) : D → Option D
  | .agg [.int .i64 a, .int .i64 b, .int .i64 c, .str s] => if 0 < cntP l ((0, 0, 0), (a, b, c), s, false) then some (.int .i64 (cntP l ((0, 0, 0), (a, b, c), s, false) : Int)) else none
  | _ => none
def spD (p : Pl) : D := .agg [.int .i64 p.2.1.1, .int .i64 p.2.1.2.1, .int .i64 p.2.1.2.2, .str p.2.2.1]
theorem cntP_spot (l : List Pl) (p : Pl) : cntP l ((0, 0, 0), (p.2.1.1, p.2.1.2.1, p.2.1.2.2), p.2.2.1, false) = cntP l p := rfl
theorem hadM_sp (l : List Pl) (p : Pl) : hadM l (spD p) = if 0 < cntP l p then some (.int .i64 (cntP l p : Int)) else none := rfl
theorem hadM_get (l : List Pl) (p : Pl) : (hadM l (spD p)).getD (.int .i64 0) = .int .i64 (cntP l p : Int) := by
  rw [hadM_sp]
  split
  · rfl
  · have : cntP l p = 0 := by omega
    rw [this]
    rfl
theorem cntP_add (l : List Pl) (p q : Pl) : cntP (l ++ [p]) q = cntP l q + if spotB q p = true then 1 else 0 := by
  unfold cntP
  rw [List.countP_append]
  simp [List.countP_cons]
end
end Pi

/- Tree: name. -/
namespace Pi
open Go Go.Proofs
set_option maxRecDepth 100000
theorem upd_upd (k v u : D) (g : D → Option D) : updD k v (updD k u g) = updD k v g := by
  funext d
  unfold updD
  cases D.eqB k d <;> rfl
theorem upd_at (k v : D) (g : D → Option D) : updD k v g k = some v := by
  unfold updD
  rw [(D.eqB_iff k k).2 rfl]
  rfl
theorem hadM_upd (l : List Pl) (p : Pl) : updD (spD p) (.int .i64 ((cntP l p : Int) + 1)) (hadM l) = hadM (l ++ [p]) := by
  funext d
  cases hd : D.eqB (spD p) d with
  | true =>
    have := (D.eqB_iff _ _).1 hd
    subst this
    rw [upd_at, hadM_sp, cntP_add, if_pos (show spotB p p = true by simp [spotB]), if_pos (by omega)]
    simp
  | false =>
    have hne : spD p ≠ d := fun e => by rw [(D.eqB_iff _ _).2 e] at hd; cases hd
    have e0 : updD (spD p) (.int .i64 ((cntP l p : Int) + 1)) (hadM l) d = hadM l d := by unfold updD; rw [hd]; rfl
    rw [e0]
    unfold hadM
    split
    · rename_i a b c s
      have : cntP (l ++ [p]) ((0, 0, 0), (a, b, c), s, false) = cntP l ((0, 0, 0), (a, b, c), s, false) := by
        rw [cntP_add, if_neg]
        · rfl
        · intro h
          simp only [spotB, Bool.and_eq_true, decide_eq_true_eq, beq_iff_eq] at h
          refine hne ?_
          unfold spD
          rw [h.1, h.2]
      rw [this]
    · rfl
theorem asM_upd {T : List Pl} {V L : List Id3} (x : Id3) : updD (ixD x) (.str (nmX T V x)) (asM T V L) = asM T V (L ++ [x]) := by
  refine mpD_upd D.str _ _ x (nmX T V x) (by simp) fun y hy => ?_
  simp [hy]
theorem asM_id (T : List Pl) (V L : List Id3) (x : Id3) : asM T V L (ixD x) = (if x ∈ L then some (nmX T V x) else none).map D.str := rfl
theorem isInt (n : Int) : isD PR 3 (.int .i64 n) = true := by kernel_rfl
section
variable {X : XF} {w0 : World} (hX : CFOK PR w0 X.cf)
include hX
theorem lnNm2 : LN w0 28 2 (loopHook (kpF 28 2) gNm2) := LN.par hX (H := [(51, hClash)]) (HN := []) (hk := []) drM (by kernel_rfl) (by kernel_rfl) (.cons okClash .nil) .nil .nil
  (A := List Pl × List Id3 × (D → Option D) × (D → Option D) × Int × Int × Int × Bool) (B := Int × Int)
  (fun ⟨T, V, f2, f3, c1, c2, c3, z2⟩ b => nm2 (riseX T V) (seenI T V).length b.1 (hadM (((riseX T V).take b.1.toNat).map (plX T))) b.2 T f2 f3 (asM T V ((riseX T V).take b.1.toNat)) c1 c2 c3 b.1 z2)
  (fun ⟨T, V, _⟩ b => T.length ≤ 1000000 ∧ Rt T ∧ 0 ≤ b.1 ∧ b.1 ≤ (riseX T V).length)
  (fun ⟨T, V, _⟩ b => ((riseX T V).length - b.1).toNat)
  (fun ⟨T, V, f2, f3, c1, c2, c3, z2⟩ x => x = (.exit 0, ⟨56, [(0, .ref 0 0 0)], nodT (plM T) f2 f3 (asM T V (seenI T V)) c1 c2 c3 ((seenI T V).length : Int) z2 true⟩))
  (by
    rintro ⟨T, V, f2, f3, c1, c2, c3, z2⟩ ⟨k, c⟩ ⟨hm, hT, h0, hk⟩
    dsimp only at *
    rw [← vcNm2]
    have hrl := rise_len (T := T) (live := V)
    have hsl : (seenI T V).length ≤ T.length := by
      unfold seenI seenL
      rw [List.length_map]
      exact List.length_filter_le _ _
    simp only [List.length_map]
    refine condP (fun h => ?_) fun h => ?_
    · have hk' : k.toNat < (riseX T V).length := by omega
      rw [ix_nth hk']
      have hx : (riseX T V)[k.toNat]? = some ((riseX T V).getD k.toNat (0, 0, 0)) := by
        rw [List.getD_eq_getElem?_getD, List.getElem?_eq_getElem hk']
        rfl
      generalize (riseX T V).getD k.toNat (0, 0, 0) = x at hx
      have hmx : marked T V x = true := rise_mem.1 (List.mem_of_getElem? hx)
      have hpx := plX_at hmx
      have hnm := nmX_cnt hT hx
      have hok := hT.2 _ (atPl_mem hpx).1
      have hx1 : (plX T x).1 = x := (atPl_mem hpx).2
      have htk : (riseX T V).take (k + 1).toNat = (riseX T V).take k.toNat ++ [x] := by
        rw [show (k + 1).toNat = k.toNat + 1 by omega, List.take_add_one, hx]
        rfl
      have hno : asM T V ((riseX T V).take k.toNat) (ixD x) = none := by
        rw [asM_id, if_neg]
        · rfl
        · intro hmem
          obtain ⟨j, hj, hjx⟩ := List.getElem_of_mem hmem
          rw [List.getElem_take] at hjx
          rw [List.length_take] at hj
          have hxk : (riseX T V)[k.toNat] = x := (List.getElem?_eq_some_iff.1 hx).2
          have := List.pairwise_iff_getElem.1 (rise_nodup (live := V) hT.1) j k.toNat (by omega) hk' (by omega)
          exact this (by rw [hjx, hxk])
      have hasu := asM_upd (T := T) (V := V) (L := (riseX T V).take k.toNat) x
      have hadu := hadM_upd (((riseX T V).take k.toNat).map (plX T)) (plX T x)
      have hadg := hadM_get (((riseX T V).take k.toNat).map (plX T)) (plX T x)
      have hcl : cntP (((riseX T V).take k.toNat).map (plX T)) (plX T x) ≤ 1000000 := by
        have h1 : cntP (((riseX T V).take k.toNat).map (plX T)) (plX T x) ≤ (((riseX T V).take k.toNat).map (plX T)).length := List.countP_le_length
        rw [List.length_map, List.length_take] at h1
        omega
      rw [show (((riseX T V).take k.toNat).map (plX T)) ++ [plX T x] = ((riseX T V).take (k + 1).toNat).map (plX T) by rw [htk]; simp] at hadu
      rw [← htk] at hasu
      generalize asM T V ((riseX T V).take k.toNat) = f4 at hno hasu
      generalize (((riseX T V).take k.toNat).map (plX T)) = l at hadu hadg hcl hnm
      generalize plX T x = p at *
      have hf : plM T (D.agg [D.int IntKind.i64 (D.iVal (D.cAt (ixD x) 0)), D.int IntKind.i64 (D.iVal (D.cAt (ixD x) 1)), D.int IntKind.i64 (D.iVal (D.cAt (ixD x) 2))]) = some (plD p) := by
        show plM T (ixD x) = _
        rw [plM_id, hpx]
        rfl
      simp only [Nat.zero_add, Nat.reduceAdd, hf]
      have hgo : getO (hadM l (spD p)) (.int .i64 0) = .int .i64 (cntP l p : Int) := hadg
      have hgt : getO (updD (spD p) (.int .i64 (D.iVal (getO (hadM l (spD p)) (.int .i64 0)) + 1)) (updD (spD p) (getO (hadM l (spD p)) (.int .i64 0)) (hadM l)) (spD p)) (.int .i64 0) = .int .i64 ((cntP l p : Int) + 1) := by
        rw [upd_at, hgo]
        rfl
      have hfun : updD (spD p) (.int .i64 (D.iVal (getO (hadM l (spD p)) (.int .i64 0)) + 1)) (updD (spD p) (getO (hadM l (spD p)) (.int .i64 0)) (hadM l)) = hadM (((riseX T V).take (k + 1).toNat).map (plX T)) := by
        rw [upd_upd, hgo]
        exact hadu
      refine oblP ⟨h0, by omega⟩ (oblI (decT hk') (oblI (isIx x) (oblI (isPl p) (oblI ?_ (oblI ?_ (oblI ?_ (condI (fun hc => ?_) fun hc => ?_)))))))
      · show isD PR 3 (getO (hadM l (spD p)) (.int .i64 0)) = true
        rw [hgo]
        exact isInt _
      · show decide ((-9223372036854775808 : Int) ≤ D.iVal (getO (hadM l (spD p)) (.int .i64 0)) + 1 ∧ D.iVal (getO (hadM l (spD p)) (.int .i64 0)) + 1 ≤ 9223372036854775807) = true
        rw [hgo]
        exact decT (show (-9223372036854775808 : Int) ≤ (cntP l p : Int) + 1 ∧ (cntP l p : Int) + 1 ≤ 9223372036854775807 from ⟨by omega, by omega⟩)
      · show isD PR 3 (getO (updD (spD p) (.int .i64 (D.iVal (getO (hadM l (spD p)) (.int .i64 0)) + 1)) (updD (spD p) (getO (hadM l (spD p)) (.int .i64 0)) (hadM l)) (spD p)) (.int .i64 0)) = true
        rw [hgt]
        exact isInt _
      · have hc' : decide (D.iVal (getO (updD (spD p) (.int .i64 (D.iVal (getO (hadM l (spD p)) (.int .i64 0)) + 1)) (updD (spD p) (getO (hadM l (spD p)) (.int .i64 0)) (hadM l)) (spD p)) (.int .i64 0)) > 1) = true := hc
        rw [hgt] at hc'
        have hc2 : (cntP l p : Int) + 1 > 1 := of_decide_eq_true hc'
        rw [if_pos (by omega)] at hnm
        refine ⟨p.2.2.1, x.1, x.2.1, x.2.2, rfl, rfl, oblI (incI (by omega) (by omega)) ⟨((riseX T V).length - (k + 1)).toNat, by omega, (k + 1, bif (hadM l (spD p)).isSome then c else c + 1), ?_, ⟨hm, hT, by simp only; omega, by simp only; omega⟩, rfl⟩⟩
        simp only
        rw [hx1] at hnm
        have hcnt : (k + 1 : Int) = bif (updD (ixD x) (.str p.2.2.1) f4 (ixD x)).isSome then (bif (f4 (ixD x)).isSome then k else k + 1) else (bif (f4 (ixD x)).isSome then k else k + 1) + 1 := by
          rw [upd_at, hno]
          rfl
        have goal : ∀ c4' : Int, c4' = k + 1 → nm2 (riseX T V) (seenI T V).length (k + 1) (updD (spD p) (.int .i64 (D.iVal (getO (hadM l (spD p)) (.int .i64 0)) + 1)) (updD (spD p) (getO (hadM l (spD p)) (.int .i64 0)) (hadM l))) (bif (hadM l (spD p)).isSome then c else c + 1) T f2 f3 (updD (ixD x) (.str (clashP p.2.2.1 x.1 x.2.1 x.2.2).1) (updD (ixD x) (.str p.2.2.1) f4)) c1 c2 c3 c4' z2 = nm2 (riseX T V) (seenI T V).length (k + 1) (updD (spD p) (.int .i64 (D.iVal (getO (hadM l (spD p)) (.int .i64 0)) + 1)) (updD (spD p) (getO (hadM l (spD p)) (.int .i64 0)) (hadM l))) (bif (hadM l (spD p)).isSome then c else c + 1) T f2 f3 (updD (ixD x) (.str (clashP p.2.2.1 x.1 x.2.1 x.2.2).1) (updD (ixD x) (.str p.2.2.1) f4)) c1 c2 c3 (k + 1) z2 := fun c4' h => by rw [h]
        exact (goal _ hcnt.symm).trans (by rw [hfun, upd_upd, ← hnm, hasu])
      · have hc' : decide (D.iVal (getO (updD (spD p) (.int .i64 (D.iVal (getO (hadM l (spD p)) (.int .i64 0)) + 1)) (updD (spD p) (getO (hadM l (spD p)) (.int .i64 0)) (hadM l)) (spD p)) (.int .i64 0)) > 1) = false := hc
        rw [hgt] at hc'
        have hc2 : ¬ (cntP l p : Int) + 1 > 1 := of_decide_eq_false hc'
        rw [if_neg (by omega)] at hnm
        refine oblI (incI (by omega) (by omega)) ⟨((riseX T V).length - (k + 1)).toNat, by omega, (k + 1, bif (hadM l (spD p)).isSome then c else c + 1), ?_, ⟨hm, hT, by simp only; omega, by simp only; omega⟩, rfl⟩
        simp only
        have hcnt : (bif (f4 (ixD x)).isSome then k else k + 1 : Int) = k + 1 := by rw [hno]; rfl
        have goal : ∀ c4' : Int, c4' = k + 1 → nm2 (riseX T V) (seenI T V).length (k + 1) (updD (spD p) (.int .i64 (D.iVal (getO (hadM l (spD p)) (.int .i64 0)) + 1)) (updD (spD p) (getO (hadM l (spD p)) (.int .i64 0)) (hadM l))) (bif (hadM l (spD p)).isSome then c else c + 1) T f2 f3 (updD (ixD x) (.str p.2.2.1) f4) c1 c2 c3 c4' z2 = nm2 (riseX T V) (seenI T V).length (k + 1) (updD (spD p) (.int .i64 (D.iVal (getO (hadM l (spD p)) (.int .i64 0)) + 1)) (updD (spD p) (getO (hadM l (spD p)) (.int .i64 0)) (hadM l))) (bif (hadM l (spD p)).isSome then c else c + 1) T f2 f3 (updD (ixD x) (.str p.2.2.1) f4) c1 c2 c3 (k + 1) z2 := fun c4' h => by rw [h]
        exact (goal _ hcnt).trans (by rw [hfun, ← hnm, hasu])
    · have e1 : (riseX T V).take k.toNat = riseX T V := List.take_of_length_le (by omega)
      rw [e1]
      have e2 : asM T V (riseX T V) = asM T V (seenI T V) := by
        unfold asM
        congr 1
        funext z
        simp only [rise_mem, seenI_mem]
      have e3 : k = ((seenI T V).length : Int) := by omega
      rw [e2, e3]
      rfl)
  (by
    rintro s post ⟨T, V, f2, f3, c1, c2, c3, z2, rfl, ⟨hm, hT⟩, hp⟩
    refine ⟨(T, V, f2, f3, c1, c2, c3, z2), (0, 0), ?_, ⟨hm, hT, by simp, by simp⟩, ?_⟩
    · have e1 : hadM [] = noM := by
        funext d
        unfold hadM
        split <;> rfl
      have e2 : asM T V [] = noM := by
        funext d
        show mpD _ _ d = none
        unfold mpD
        split <;> rfl
      show _ = nm2 (riseX T V) (seenI T V).length 0 (hadM []) 0 T f2 f3 (asM T V []) c1 c2 c3 0 z2
      rw [e1, e2]
      rfl
    · rintro x rfl
      exact hp)
theorem ndNames : ND w0 28 hNames := ND.mk hX (H := []) (HN := [(50, hRising)]) (hk := [(2, loopHook (kpF 28 2) gNm2)]) drM (by kernel_rfl) .nil (.cons (ndRising hX) .nil) (.cons (lnNm2 hX) .nil) (by
  intro ps R post hh
  obtain ⟨T, V, f2, c1, c2, z2, z3, rfl, rfl, ⟨hm, hT⟩, hp⟩ := hh
  rw [← vcNmB]
  have hsl : (seenI T V).length ≤ T.length := by
    unfold seenI seenL
    rw [List.length_map]
    exact List.length_filter_le _ _
  refine ⟨T, seenI T V, f2, noM, c1, c2, 0, z2, z3, rfl, rfl, ⟨by omega, seenI_nodup hT.1 V⟩, T, V, f2, inM (seenI T V), c1, c2, _, z2, ?_, ⟨hm, hT⟩, hp⟩
  rfl)
end
end Pi

/- Tree: Items: what its runs ask. -/
namespace Pi
open Go Go.Proofs
set_option maxRecDepth 100000
set_option maxHeartbeats 0
def itmD (x : It) : D := itD x.1.1 x.1.2.1 x.1.2.2 x.2.1 x.2.2.1 x.2.2.2
abbrev nodS (f1 f2 f3 f4 : D → Option D) (c1 c2 c3 c4 : Int) : List (Nat × En) :=
  [(0, ⟨0, none, .box 61 [.mp 1 0, .mp 2 0, .mp 3 0, .mp 4 0]⟩), (1, ⟨0, none, .map 41 f1 c1 false⟩), (2, ⟨0, none, .map 41 f2 c2 true⟩), (3, ⟨0, none, .map 41 f3 c3 true⟩), (4, ⟨0, none, .map 41 f4 c4 false⟩)]
abbrev it6 (T : List Pl) (V : List Id3) (f3 f4 : D → Option D) (o : List D) (n : Nat) (g : D → Option D) (e : Option (D × D)) (c1 c2 c3 c4 : Int) : S :=
  ⟨61, [(5, .ref 0 0 0), (6, .sl 5 0 n), (27, .ref 6 0 0)], nodS (plM T) (inM V) f3 f4 c1 c2 c3 c4 ++ [(5, ⟨0, none, .arr 43 false o⟩)] ++ itE 6 g e⟩
def gIt6 : S → K (PX × S) := fun s post => ∃ T V c2 c3 c4, s = it6 T V (inM (seenI T V)) (asM T V (seenI T V)) [] 0 (inM (seenI T V)) none (T.length : Int) c2 c3 c4 ∧ (T.length ≤ 1000 ∧ Rt T) ∧
  ∀ o : List It, o.Perm ((seenL T V).map (itemX T V)) → post (.exit 0, ⟨61, [(6, .sl 0 0 o.length)], [(0, ⟨0, none, .arr 43 false (o.map itmD)⟩)]⟩)
theorem vcIt6 (T : List Pl) (V : List Id3) (f3 f4 : D → Option D) (o : List D) (n : Nat) (g : D → Option D) (e : Option (D × D)) (c1 c2 c3 c4 : Int) (post : PX × S → Prop) : ((∀ (k x : D), g k = some x → bif isD PR 41 k then bif isD PR 62 x then bif isD PR 62 (getO (inM V (D.agg [D.int IntKind.i64 (D.iVal (D.cAt k 0)), D.int IntKind.i64 (D.iVal (D.cAt k 1)), D.int IntKind.i64 (D.iVal (D.cAt k 2))])) (D.agg [])) then ∃ (T_1 : List Pl), ∃ (x : Id3), ∃ (w : List Id3), ∃ (nm : Id3 → List UInt8), ∃ (f2 : D → Option D), ∃ (f3_1 : D → Option D), ∃ (f4_1 : D → Option D), ∃ (c2_1 : Int), ∃ (c3_1 : Int), ∃ (c4_1 : Int), ∃ (z2 : Bool), ∃ (z3 : Bool), [P.ref 0 0 0, P.d (D.agg [D.int IntKind.i64 (D.iVal (D.cAt k 0)), D.int IntKind.i64 (D.iVal (D.cAt k 1)), D.int IntKind.i64 (D.iVal (D.cAt k 2))])] = [P.ref 0 0 0, P.d (D.agg [D.int IntKind.i64 (Prod.fst x), D.int IntKind.i64 (Prod.fst (Prod.snd x)), D.int IntKind.i64 (Prod.snd (Prod.snd x))])] ∧ [(0, En.mk 0 (some 0) (Obj.box 61 [P.mp 1 0, P.mp 2 0, P.mp 3 0, P.mp 4 0])), (1, En.mk 0 (some 1) (Obj.map 41 (fun (x : D) => match x with | D.agg [D.int IntKind.i64 a, D.int IntKind.i64 b, D.int IntKind.i64 c] => Option.map plD (atPl T (a, b, c)) | _ => none) c1 false)), (2, En.mk 0 (some 2) (Obj.map 41 (fun (x : D) => match x with | D.agg [D.int IntKind.i64 a, D.int IntKind.i64 b, D.int IntKind.i64 c] => Option.map (fun (_ : Unit) => D.agg []) ((fun (x : Id3) => if x ∈ V then some () else none) (a, b, c)) | _ => none) c2 true)), (3, En.mk 0 (some 3) (Obj.map 41 f3 c3 true)), (4, En.mk 0 (some 4) (Obj.map 41 f4 c4 false))] = [(0, En.mk 0 (some 0) (Obj.box 61 [P.mp 1 0, P.mp 2 0, P.mp 3 0, P.mp 4 0])), (1, En.mk 0 (some 1) (Obj.map 41 (fun (x : D) => match x with | D.agg [D.int IntKind.i64 a, D.int IntKind.i64 b, D.int IntKind.i64 c] => Option.map plD (atPl T_1 (a, b, c)) | _ => none) (↑(List.length T_1) : Int) false)), (2, En.mk 0 (some 2) (Obj.map 41 f2 c2_1 z2)), (3, En.mk 0 (some 3) (Obj.map 41 f3_1 c3_1 z3)), (4, En.mk 0 (some 4) (Obj.map 41 f4_1 c4_1 false))] ∧ (List.length T_1 ≤ 1000000 ∧ Up T_1 x w ∧ (∀ (u : Id3), u ∈ w → f4_1 (ixD u) = some (D.str (nm u))) ∧ sumL (List.map nm (List.reverse w)) ≤ 2000000) ∧ bif isD PR 47 (getO (plM T_1 (D.agg [D.int IntKind.i64 (D.iVal (D.cAt k 0)), D.int IntKind.i64 (D.iVal (D.cAt k 1)), D.int IntKind.i64 (D.iVal (D.cAt k 2))])) (D.agg [D.int IntKind.i64 (0 : Int), D.int IntKind.i64 (0 : Int), D.int IntKind.i64 (0 : Int), D.int IntKind.i64 (0 : Int), D.int IntKind.i64 (0 : Int), D.int IntKind.i64 (0 : Int), D.str [], D.bool false])) then bif Nat.ble n (List.length o) && roomOk (n + List.length [D.agg [D.int IntKind.i64 (D.iVal (D.cAt k 0)), D.int IntKind.i64 (D.iVal (D.cAt k 1)), D.int IntKind.i64 (D.iVal (D.cAt k 2)), D.str (joinR (List.map nm (List.reverse w))), D.bool (D.bVal (D.cAt (getO (plM T_1 (D.agg [D.int IntKind.i64 (D.iVal (D.cAt k 0)), D.int IntKind.i64 (D.iVal (D.cAt k 1)), D.int IntKind.i64 (D.iVal (D.cAt k 2))])) (D.agg [D.int IntKind.i64 (0 : Int), D.int IntKind.i64 (0 : Int), D.int IntKind.i64 (0 : Int), D.int IntKind.i64 (0 : Int), D.int IntKind.i64 (0 : Int), D.int IntKind.i64 (0 : Int), D.str [], D.bool false])) 7)), D.bool !Option.isSome (inM V (D.agg [D.int IntKind.i64 (D.iVal (D.cAt k 0)), D.int IntKind.i64 (D.iVal (D.cAt k 1)), D.int IntKind.i64 (D.iVal (D.cAt k 2))]))]]) 48 then some (En.mk 0 none (Obj.box 61 [P.mp 1 0, P.mp 2 0, P.mp 3 0, P.mp 4 0])) = some (En.mk 0 none (Obj.box 61 [P.mp 1 0, P.mp 2 0, P.mp 3 0, P.mp 4 0])) ∧ some (En.mk 0 none (Obj.box 61 [P.mp 1 0, P.mp 2 0, P.mp 3 0, P.mp 4 0])) = some (En.mk 0 none (Obj.box 61 [P.mp 1 0, P.mp 2 0, P.mp 3 0, P.mp 4 0])) ∧ some (En.mk 0 none (Obj.box 61 [P.mp 1 0, P.mp 2 0, P.mp 3 0, P.mp 4 0])) = some (En.mk 0 none (Obj.box 61 [P.mp 1 0, P.mp 2 0, P.mp 3 0, P.mp 4 0])) ∧ some (En.mk 0 none (Obj.map 41 (fun (x : D) => match x with | D.agg [D.int IntKind.i64 a, D.int IntKind.i64 b, D.int IntKind.i64 c] => Option.map plD (atPl T_1 (a, b, c)) | _ => none) (↑(List.length T_1) : Int) false)) = some (En.mk 0 none (Obj.map 41 (fun (x : D) => match x with | D.agg [D.int IntKind.i64 a, D.int IntKind.i64 b, D.int IntKind.i64 c] => Option.map plD (atPl T (a, b, c)) | _ => none) c1 false)) ∧ post (PX.normal, S.mk 61 [(5, P.ref 0 0 0), (6, P.sl 5 0 (n + List.length [D.agg [D.int IntKind.i64 (D.iVal (D.cAt k 0)), D.int IntKind.i64 (D.iVal (D.cAt k 1)), D.int IntKind.i64 (D.iVal (D.cAt k 2)), D.str (joinR (List.map nm (List.reverse w))), D.bool (D.bVal (D.cAt (getO (plM T_1 (D.agg [D.int IntKind.i64 (D.iVal (D.cAt k 0)), D.int IntKind.i64 (D.iVal (D.cAt k 1)), D.int IntKind.i64 (D.iVal (D.cAt k 2))])) (D.agg [D.int IntKind.i64 (0 : Int), D.int IntKind.i64 (0 : Int), D.int IntKind.i64 (0 : Int), D.int IntKind.i64 (0 : Int), D.int IntKind.i64 (0 : Int), D.int IntKind.i64 (0 : Int), D.str [], D.bool false])) 7)), D.bool !Option.isSome (inM V (D.agg [D.int IntKind.i64 (D.iVal (D.cAt k 0)), D.int IntKind.i64 (D.iVal (D.cAt k 1)), D.int IntKind.i64 (D.iVal (D.cAt k 2))]))]])), (27, P.ref 6 0 0)] [(0, En.mk 0 none (Obj.box 61 [P.mp 1 0, P.mp 2 0, P.mp 3 0, P.mp 4 0])), (1, En.mk 0 none (Obj.map 41 (fun (x : D) => match x with | D.agg [D.int IntKind.i64 a, D.int IntKind.i64 b, D.int IntKind.i64 c] => Option.map plD (atPl T_1 (a, b, c)) | _ => none) (↑(List.length T_1) : Int) false)), (2, En.mk 0 none (Obj.map 41 f2 c2_1 z2)), (3, En.mk 0 none (Obj.map 41 f3_1 c3_1 z3)), (4, En.mk 0 none (Obj.map 41 f4_1 c4_1 false)), (5, En.mk 0 none (Obj.arr 43 false (List.take n o ++ [D.agg [D.int IntKind.i64 (D.iVal (D.cAt k 0)), D.int IntKind.i64 (D.iVal (D.cAt k 1)), D.int IntKind.i64 (D.iVal (D.cAt k 2)), D.str (joinR (List.map nm (List.reverse w))), D.bool (D.bVal (D.cAt (getO (plM T_1 (D.agg [D.int IntKind.i64 (D.iVal (D.cAt k 0)), D.int IntKind.i64 (D.iVal (D.cAt k 1)), D.int IntKind.i64 (D.iVal (D.cAt k 2))])) (D.agg [D.int IntKind.i64 (0 : Int), D.int IntKind.i64 (0 : Int), D.int IntKind.i64 (0 : Int), D.int IntKind.i64 (0 : Int), D.int IntKind.i64 (0 : Int), D.int IntKind.i64 (0 : Int), D.str [], D.bool false])) 7)), D.bool !Option.isSome (inM V (D.agg [D.int IntKind.i64 (D.iVal (D.cAt k 0)), D.int IntKind.i64 (D.iVal (D.cAt k 1)), D.int IntKind.i64 (D.iVal (D.cAt k 2))]))]]))), (6, En.mk 0 none (Obj.iter 41 62 (fun (k' : D) => bif D.eqB (D.agg [D.int IntKind.i64 (D.iVal (D.cAt k 0)), D.int IntKind.i64 (D.iVal (D.cAt k (0 + 1))), D.int IntKind.i64 (D.iVal (D.cAt k (0 + 1 + 1)))]) k' then none else g k') (some (D.agg [D.int IntKind.i64 (D.iVal (D.cAt k 0)), D.int IntKind.i64 (D.iVal (D.cAt k 1)), D.int IntKind.i64 (D.iVal (D.cAt k 2))], D.agg []))))]) else False else False else False else False else False) ∧ ((∀ (k : D), g k = none) → post (PX.exit 0, S.mk 61 [(6, P.sl 0 0 n)] [(0, En.mk 0 none (Obj.arr 43 false o))]))) = (roundLN [(29, hPath)] [] [] 12 6 (it6 T V f3 f4 o n g e c1 c2 c3 c4)) post := by kernel_rfl
def cfP : D → D → Int
  | .agg [_, _, _, .str a, _, _], .agg [_, _, _, .str b, _, _] => cmpB a b
  | _, _ => 0
def hItems1 : KF1 := fun ps R post => ∃ a b : It, ps = [.d (itmD a), .d (itmD b)] ∧ R = [] ∧ post (iD (cmpB a.2.1 b.2.1), [])
theorem vcItems1 (a b : It) (post : P × List (Nat × En) → Prop) : (∃ (x : List UInt8), ∃ (y : List UInt8), [P.d (D.str (Prod.fst (Prod.snd a))), P.d (D.str (Prod.fst (Prod.snd b)))] = [P.d (D.str x), P.d (D.str y)] ∧ EqR [] [] ∧ post (P.d (D.int IntKind.i64 (cmpB x y)), [])) = (bodyF [(32, hCompareS)] [] 31 [.d (itmD a), .d (itmD b)] []) post := by kernel_rfl
theorem vcItems (l : List Pl) (live : List Id3) (post : P × List (Nat × En) → Prop) : (∃ (l_1 : List Pl), ∃ (live_1 : List Id3), [P.d (D.sl 8 (List.map plD l)), P.d (D.sl 3 (List.map ixD live))] = [P.d (D.sl 8 (List.map plD l_1)), P.d (D.sl 3 (List.map ixD live_1))] ∧ EqR [] [] ∧ (List.length l_1 ≤ 1000000 ∧ List.length live_1 ≤ 1000000) ∧ ∃ (T : List Pl), ∃ (V : List Id3), ∃ (f4 : D → Option D), ∃ (c4 : Int), ∃ (z2 : Bool), [P.ref 0 0 0] = [P.ref 0 0 0] ∧ [(0, En.mk 0 (some 0) (Obj.box 61 [P.mp 1 0, P.mp 2 0, P.mp 3 0, P.mp 4 0])), (1, En.mk 0 (some 1) (Obj.map 41 (fun (x : D) => match x with | D.agg [D.int IntKind.i64 a, D.int IntKind.i64 b, D.int IntKind.i64 c] => Option.map plD (atPl (tkL l_1) (a, b, c)) | _ => none) (↑(List.length (tkL l_1)) : Int) false)), (2, En.mk 0 (some 2) (Obj.map 41 (fun (x : D) => match x with | D.agg [D.int IntKind.i64 a, D.int IntKind.i64 b, D.int IntKind.i64 c] => Option.map (fun (_ : Unit) => D.agg []) ((fun (x : Id3) => if x ∈ lvL live_1 then some () else none) (a, b, c)) | _ => none) (↑(List.length (lvL live_1)) : Int) false)), (3, En.mk 0 (some 3) (Obj.map 41 (fun (_ : D) => none) (0 : Int) false)), (4, En.mk 0 (some 4) (Obj.map 41 (fun (_ : D) => none) (0 : Int) false))] = [(0, En.mk 0 (some 0) (Obj.box 61 [P.mp 1 0, P.mp 2 0, P.mp 3 0, P.mp 4 0])), (1, En.mk 0 (some 1) (Obj.map 41 (fun (x : D) => match x with | D.agg [D.int IntKind.i64 a, D.int IntKind.i64 b, D.int IntKind.i64 c] => Option.map plD (atPl T (a, b, c)) | _ => none) (↑(List.length T) : Int) false)), (2, En.mk 0 (some 2) (Obj.map 41 (fun (x : D) => match x with | D.agg [D.int IntKind.i64 a, D.int IntKind.i64 b, D.int IntKind.i64 c] => Option.map (fun (_ : Unit) => D.agg []) ((fun (x : Id3) => if x ∈ V then some () else none) (a, b, c)) | _ => none) (↑(List.length V) : Int) z2)), (3, En.mk 0 (some 3) (Obj.map 41 (fun (_ : D) => none) (0 : Int) false)), (4, En.mk 0 (some 4) (Obj.map 41 f4 c4 false))] ∧ (List.length T ≤ 1000000 ∧ Uq T ∧ List.Nodup V) ∧ ∃ (T_1 : List Pl), ∃ (V_1 : List Id3), ∃ (f2 : D → Option D), ∃ (c1 : Int), ∃ (c2 : Int), ∃ (z2 : Bool), ∃ (z3 : Bool), [P.ref 0 0 0] = [P.ref 0 0 0] ∧ [(0, En.mk 0 (some 0) (Obj.box 61 [P.mp 1 0, P.mp 2 0, P.mp 3 0, P.mp 4 0])), (1, En.mk 0 (some 1) (Obj.map 41 (fun (x : D) => match x with | D.agg [D.int IntKind.i64 a, D.int IntKind.i64 b, D.int IntKind.i64 c] => Option.map plD (atPl T (a, b, c)) | _ => none) (↑(List.length T) : Int) false)), (2, En.mk 0 (some 2) (Obj.map 41 (fun (x : D) => match x with | D.agg [D.int IntKind.i64 a, D.int IntKind.i64 b, D.int IntKind.i64 c] => Option.map (fun (_ : Unit) => D.agg []) ((fun (x : Id3) => if x ∈ V then some () else none) (a, b, c)) | _ => none) (↑(List.length V) : Int) true)), (3, En.mk 0 (some 3) (Obj.map 41 (fun (x : D) => match x with | D.agg [D.int IntKind.i64 a, D.int IntKind.i64 b, D.int IntKind.i64 c] => Option.map (fun (_ : Unit) => D.agg []) ((fun (x : Id3) => if x ∈ seenI T V then some () else none) (a, b, c)) | _ => none) (↑(List.length (seenI T V)) : Int) false)), (4, En.mk 0 (some 4) (Obj.map 41 f4 c4 false))] = [(0, En.mk 0 (some 0) (Obj.box 61 [P.mp 1 0, P.mp 2 0, P.mp 3 0, P.mp 4 0])), (1, En.mk 0 (some 1) (Obj.map 41 (fun (x : D) => match x with | D.agg [D.int IntKind.i64 a, D.int IntKind.i64 b, D.int IntKind.i64 c] => Option.map plD (atPl T_1 (a, b, c)) | _ => none) c1 false)), (2, En.mk 0 (some 2) (Obj.map 41 f2 c2 z2)), (3, En.mk 0 (some 3) (Obj.map 41 (fun (x : D) => match x with | D.agg [D.int IntKind.i64 a, D.int IntKind.i64 b, D.int IntKind.i64 c] => Option.map (fun (_ : Unit) => D.agg []) ((fun (x : Id3) => if x ∈ seenI T_1 V_1 then some () else none) (a, b, c)) | _ => none) (↑(List.length (seenI T_1 V_1)) : Int) z3)), (4, En.mk 0 (some 4) (Obj.map 41 (fun (_ : D) => none) (0 : Int) false))] ∧ (List.length T_1 ≤ 1000000 ∧ Rt T_1) ∧ bif decide ((0 : Int) ≤ (0 : Int) ∧ (0 : Int) ≤ (↑(List.length (seenI T_1 V_1)) : Int) ∧ (↑(List.length (seenI T_1 V_1)) : Int) ≤ (9223372036854775807 : Int) ∧ (↑48 : Int) * (↑(List.length (seenI T_1 V_1)) : Int) ≤ (281474976710656 : Int)) then ∃ (T : List Pl), ∃ (V : List Id3), ∃ (c2_1 : Int), ∃ (c3 : Int), ∃ (c4 : Int), S.mk 61 [(5, P.ref 0 0 0), (6, P.sl 5 0 0), (27, P.ref 6 0 0)] [(0, En.mk 0 none (Obj.box 61 [P.mp 1 0, P.mp 2 0, P.mp 3 0, P.mp 4 0])), (1, En.mk 0 none (Obj.map 41 (fun (x : D) => match x with | D.agg [D.int IntKind.i64 a, D.int IntKind.i64 b, D.int IntKind.i64 c] => Option.map plD (atPl T_1 (a, b, c)) | _ => none) c1 false)), (2, En.mk 0 none (Obj.map 41 f2 c2 z2)), (3, En.mk 0 none (Obj.map 41 (fun (x : D) => match x with | D.agg [D.int IntKind.i64 a, D.int IntKind.i64 b, D.int IntKind.i64 c] => Option.map (fun (_ : Unit) => D.agg []) ((fun (x : Id3) => if x ∈ seenI T_1 V_1 then some () else none) (a, b, c)) | _ => none) (↑(List.length (seenI T_1 V_1)) : Int) true)), (4, En.mk 0 none (Obj.map 41 (fun (x : D) => match x with | D.agg [D.int IntKind.i64 a, D.int IntKind.i64 b, D.int IntKind.i64 c] => Option.map D.str ((fun (x : Id3) => if x ∈ seenI T_1 V_1 then some (nmX T_1 V_1 x) else none) (a, b, c)) | _ => none) (↑(List.length (seenI T_1 V_1)) : Int) false)), (5, En.mk 0 none (Obj.arr 43 false [])), (6, En.mk 0 none (Obj.iter 41 62 (fun (x : D) => match x with | D.agg [D.int IntKind.i64 a, D.int IntKind.i64 b, D.int IntKind.i64 c] => Option.map (fun (_ : Unit) => D.agg []) ((fun (x : Id3) => if x ∈ seenI T_1 V_1 then some () else none) (a, b, c)) | _ => none) none))] = S.mk 61 [(5, P.ref 0 0 0), (6, P.sl 5 0 0), (27, P.ref 6 0 0)] [(0, En.mk 0 none (Obj.box 61 [P.mp 1 0, P.mp 2 0, P.mp 3 0, P.mp 4 0])), (1, En.mk 0 none (Obj.map 41 (fun (x : D) => match x with | D.agg [D.int IntKind.i64 a, D.int IntKind.i64 b, D.int IntKind.i64 c] => Option.map plD (atPl T (a, b, c)) | _ => none) (↑(List.length T) : Int) false)), (2, En.mk 0 none (Obj.map 41 (fun (x : D) => match x with | D.agg [D.int IntKind.i64 a, D.int IntKind.i64 b, D.int IntKind.i64 c] => Option.map (fun (_ : Unit) => D.agg []) ((fun (x : Id3) => if x ∈ V then some () else none) (a, b, c)) | _ => none) c2_1 true)), (3, En.mk 0 none (Obj.map 41 (fun (x : D) => match x with | D.agg [D.int IntKind.i64 a, D.int IntKind.i64 b, D.int IntKind.i64 c] => Option.map (fun (_ : Unit) => D.agg []) ((fun (x : Id3) => if x ∈ seenI T V then some () else none) (a, b, c)) | _ => none) c3 true)), (4, En.mk 0 none (Obj.map 41 (fun (x : D) => match x with | D.agg [D.int IntKind.i64 a, D.int IntKind.i64 b, D.int IntKind.i64 c] => Option.map D.str ((fun (x : Id3) => if x ∈ seenI T V then some (nmX T V x) else none) (a, b, c)) | _ => none) c4 false)), (5, En.mk 0 none (Obj.arr 43 false [])), (6, En.mk 0 none (Obj.iter 41 62 (fun (x : D) => match x with | D.agg [D.int IntKind.i64 a, D.int IntKind.i64 b, D.int IntKind.i64 c] => Option.map (fun (_ : Unit) => D.agg []) ((fun (x : Id3) => if x ∈ seenI T V then some () else none) (a, b, c)) | _ => none) none))] ∧ (List.length T ≤ 1000 ∧ Rt T) ∧ ∀ (o : List It), List.Perm o (List.map (itemX T V) (seenL T V)) → ∃ (es : List D), [P.sl 0 0 (List.length o), P.fn 31 []] = [P.sl 0 0 (List.length es), P.fn 31 []] ∧ [(0, En.mk 0 (some 0) (Obj.arr 43 false (List.map itmD o)))] = [(0, En.mk 0 (some 0) (Obj.arr 43 false es))] ∧ CmpOn PR kp0 (31 : FuncId) es cfP ∧ ∀ (es' : List D), List.Perm es' es → List.Pairwise (fun (a b : D) => ¬cfP b a < (0 : Int)) es' → post (P.sl 0 0 (List.length o), [(0, En.mk 0 none (Obj.arr 43 false es'))]) else False) = (bodyFN [(26, hTaken), (30, hSortA 31 cfP 43)] [(27, hMark), (28, hNames)] [(6, loopHook (kpF 12 6) gIt6)] 12 [plsP l, idsP live] []) post := by kernel_rfl
def hItems : KF1 := fun ps R post => ∃ l live, ps = [plsP l, idsP live] ∧ R = [] ∧ (l.length ≤ 1000 ∧ live.length ≤ 1000) ∧
  post (.sl 0 0 (itemsX (tkL l) (lvL live)).length, [(0, ⟨0, none, .arr 43 false ((itemsX (tkL l) (lvL live)).map itmD)⟩)])
end Pi

/- Tree: Items. -/
namespace Pi
open Go Go.Proofs
set_option maxRecDepth 100000
theorem isIt (x : It) : isD PR 43 (itmD x) = true := by
  obtain ⟨⟨a, b, c⟩, d, e, f⟩ := x
  kernel_rfl
theorem fcItems1 : FC 31 hItems1 := FC.mk (H := [(32, hCompareS)]) (by kernel_rfl) (.cons fcCompareS .nil) (by
  intro ps R post hh
  obtain ⟨a, b, rfl, rfl, hp⟩ := hh
  rw [← vcItems1]
  exact ⟨_, _, rfl, rfl, hp⟩)
theorem cfP_it (a b : It) : cfP (itmD a) (itmD b) = cmpB a.2.1 b.2.1 := rfl
theorem cfP_lt (a b : It) : cfP (itmD a) (itmD b) < 0 ↔ Op.bytesLess a.2.1 b.2.1 = true := by rw [cfP_it]; exact cmpB_lt _ _
theorem cmpOnP (l : List It) (hl : l.length ≤ 1000000) : CmpOn PR kp0 31 (l.map itmD) cfP where
  fn := ⟨_, Tryz.func31, by kernel_rfl, by kernel_rfl⟩
  ag := fun d hd => by
    obtain ⟨x, _, rfl⟩ := List.mem_map.1 hd
    exact ⟨_, rfl⟩
  len := by simp; omega
  run := fun a ha b hb => by
    obtain ⟨x, _, rfl⟩ := List.mem_map.1 ha
    obtain ⟨y, _, rfl⟩ := List.mem_map.1 hb
    exact FC.cmps fcItems1 ⟨x, y, rfl, rfl, rfl⟩
  irr := fun a ha => by
    obtain ⟨x, _, rfl⟩ := List.mem_map.1 ha
    rw [cfP_lt, lin_B.irr]
    simp
  tr := fun a ha b hb c hc => by
    obtain ⟨x, _, rfl⟩ := List.mem_map.1 ha
    obtain ⟨y, _, rfl⟩ := List.mem_map.1 hb
    obtain ⟨z, _, rfl⟩ := List.mem_map.1 hc
    rw [cfP_lt, cfP_lt, cfP_lt]
    exact lin_B.tr _ _ _
  ntr := fun a ha b hb c hc => by
    obtain ⟨x, _, rfl⟩ := List.mem_map.1 ha
    obtain ⟨y, _, rfl⟩ := List.mem_map.1 hb
    obtain ⟨z, _, rfl⟩ := List.mem_map.1 hc
    rw [cfP_lt, cfP_lt, cfP_lt]
    intro h1 h2
    simpa using lin_B.ntr (by simpa using h1) (by simpa using h2)
theorem okSortItem {X : XF} : FD X 30 (hSortA 31 cfP 43) := FD.ofX Tryz.func30 (by kernel_rfl) (by kernel_rfl) fun ps R post h => hSort_told (hSortA_hSort h)
/-- An item of its data. -/
def unIt : D → It
  | .agg [.int .i64 a, .int .i64 b, .int .i64 c, .str p, .bool d, .bool e] => ((a, b, c), p, d, e)
  | _ => ((0, 0, 0), [], false, false)
/-! how long paths are -/
theorem nmP_len (L : List Pl) {p : Pl} (h : okPl p = true) : (nmP L p).length ≤ 200 := by
  have h' := h
  simp only [okPl, Bool.and_eq_true] at h'
  have hn : p.2.2.1.length ≤ 32 := by
    have := h'.2
    simp only [nameOk, decide_eq_true_eq] at this
    exact this.2.1
  unfold nmP
  split
  · rw [clashR h]
    have hr := h'.1
    simp only [rightId, decide_eq_true_eq] at hr
    have l1 := itoa_len21 (n := p.1.1) (by omega) (by omega)
    have l2 := itoa_len21 (n := p.1.2.1) (by omega) (by omega)
    have l3 := itoa_len21 (n := p.1.2.2) (by omega) (by omega)
    simp [textS]
    omega
  · omega
theorem sum_le : ∀ (l : List (List UInt8)), (∀ s ∈ l, s.length ≤ 200) → sumL l ≤ 201 * l.length
  | [], _ => by simp [sumL, joinR]
  | s :: r, h => by
    have h1 := sum_le r fun x hx => h x (by simp [hx])
    have h2 := h s (by simp)
    simp only [sumL, joinR, List.flatMap_cons, List.length_append, List.length_cons] at h1 ⊢
    omega
theorem names_len {T : List Pl} {V : List Id3} (hT : Rt T) {x : Id3} {w : List Id3} (hw : Up T x w) : sumL (w.reverse.map (nmX T V)) ≤ 201 * T.length := by
  have := sum_le (w.reverse.map (nmX T V)) fun s hs => by
    obtain ⟨u, hu, rfl⟩ := List.mem_map.1 hs
    obtain ⟨w', h1, _⟩ := hw.sub u (by simpa using hu)
    obtain ⟨p, hp⟩ := h1.at
    unfold nmX
    rw [hp]
    exact nmP_len _ (hT.2 p (atPl_mem hp).1)
  have hl := hw.len
  simp only [List.length_map, List.length_reverse] at this
  omega
section
variable {X : XF} {w0 : World} (hX : CFOK PR w0 X.cf)
include hX
theorem lnIt6 : LN w0 12 6 (loopHook (kpF 12 6) gIt6) := LN.par hX (H := [(29, hPath)]) (HN := []) (hk := []) drM (by kernel_rfl) (by kernel_rfl) (.cons okPath .nil) .nil .nil
  (A := List Pl × List Id3 × Int × Int × Int) (B := List Id3 × List Id3 × Option (D × D))
  (fun ⟨T, V, c2, c3, c4⟩ ⟨o, L, e⟩ => it6 T V (inM (seenI T V)) (asM T V (seenI T V)) ((o.map fun x => itemX T V (plX T x)).map itmD) o.length (inM L) e (T.length : Int) c2 c3 c4)
  (fun ⟨T, V, _⟩ ⟨o, L, _⟩ => T.length ≤ 1000 ∧ Rt T ∧ L.Nodup ∧ (o ++ L).Perm (seenI T V))
  (fun _ b => b.2.1.length)
  (fun ⟨T, V, _⟩ x => ∃ o : List It, o.Perm ((seenL T V).map (itemX T V)) ∧ x = (.exit 0, ⟨61, [(6, .sl 0 0 o.length)], [(0, ⟨0, none, .arr 43 false (o.map itmD)⟩)]⟩))
  (by
    rintro ⟨T, V, c2, c3, c4⟩ ⟨o, L, e⟩ ⟨hm, hT, hn, hp⟩
    dsimp only at *
    rw [← vcIt6]
    have hl := hp.length_eq
    have hsl : (seenI T V).length ≤ T.length := by
      unfold seenI seenL
      rw [List.length_map]
      exact List.length_filter_le _ _
    rw [List.length_append] at hl
    refine ⟨fun k v hk => ?_, fun hno => ?_⟩
    · obtain ⟨x, hx, rfl, rfl⟩ := inM_some hk
      have hdel := inM_del hn x
      have h0 : 0 < L.length := List.length_pos_of_mem hx
      have hlen : (L.erase x).length < L.length := by
        rw [List.length_erase_of_mem hx]
        omega
      have hmx : marked T V x = true := seenI_mem.1 (hp.mem_iff.1 (by simp [hx]))
      obtain ⟨w, hw, mw⟩ := marked_up hmx
      have hpx := plX_at hmx
      have hit : itemX T V (plX T x) = (x, joinR (w.reverse.map (nmX T V)), (plX T x).2.2.2, !decide (x ∈ V)) := by
        unfold itemX
        rw [(atPl_mem hpx).2]
        unfold pathX
        rw [pathX_up hw]
      have hf : plM T (D.agg [D.int IntKind.i64 (D.iVal (D.cAt (ixD x) 0)), D.int IntKind.i64 (D.iVal (D.cAt (ixD x) 1)), D.int IntKind.i64 (D.iVal (D.cAt (ixD x) 2))]) = some (plD (plX T x)) := by
        show plM T (ixD x) = _
        rw [plM_id, hpx]
        rfl
      have hin : (inM V (D.agg [D.int IntKind.i64 (D.iVal (D.cAt (ixD x) 0)), D.int IntKind.i64 (D.iVal (D.cAt (ixD x) 1)), D.int IntKind.i64 (D.iVal (D.cAt (ixD x) 2))])).isSome = decide (x ∈ V) := by
        show (inM V (ixD x)).isSome = _
        rw [inM_id]
        by_cases h : x ∈ V <;> simp [h]
      have hns := names_len (V := V) hT hw
      refine oblI (isIx x) (oblI isNo (oblI ?_ ⟨T, x, w, nmX T V, inM V, inM (seenI T V), asM T V (seenI T V), c2, c3, c4, true, true, rfl, rfl, ⟨by omega, hw, fun u hu => ?_, by omega⟩, ?_⟩))
      · show isD PR 62 (getO (inM V (ixD x)) (.agg [])) = true
        rw [inM_id]
        by_cases hu : x ∈ V <;> simp only [hu, if_true, if_false, Option.map_some, Option.map_none] <;> exact isNo
      · rw [asM_id, if_pos (seenI_mem.2 (mw u hu))]
        rfl
      · simp only [hf, hin]
        refine oblI (isPl (plX T x)) (oblI ?_ ⟨trivial, trivial, trivial, trivial, ?_⟩)
        · simp only [List.length_map]
          simp [roomOk]
          omega
        · refine ⟨_, hlen, (o ++ [x], L.erase x, some (ixD x, .agg [])), ?_, ⟨hm, hT, hn.erase _, ?_⟩, rfl⟩
          · show _ = it6 T V (inM (seenI T V)) (asM T V (seenI T V)) (((o ++ [x]).map fun x => itemX T V (plX T x)).map itmD) (o ++ [x]).length (inM (L.erase x)) (some (ixD x, .agg [])) (T.length : Int) c2 c3 c4
            rw [← hdel, List.map_append, List.map_append, List.length_append]
            simp only [List.map_cons, List.map_nil, hit]
            rw [List.take_of_length_le (by simp)]
            rfl
          · simp only
            refine List.Perm.trans ?_ hp
            rw [List.append_assoc]
            exact (List.perm_cons_erase hx).symm.append_left o
    · have := inM_none hno
      subst this
      have ho : o.Perm (seenI T V) := by simpa using hp
      refine ⟨o.map fun x => itemX T V (plX T x), ?_, by rw [List.length_map]⟩
      have h1 := ho.map fun x => itemX T V (plX T x)
      refine h1.trans (List.Perm.of_eq ?_)
      unfold seenI
      rw [List.map_map]
      refine List.map_congr_left fun p hp => ?_
      obtain ⟨p1, p2⟩ := seen_pl hp
      show itemX T V (plX T p.1) = _
      unfold plX
      rw [atPl_of hT.1 p1]
      rfl)
  (by
    rintro s post ⟨T, V, c2, c3, c4, rfl, ⟨hm, hT⟩, hp⟩
    refine ⟨(T, V, c2, c3, c4), ([], seenI T V, none), rfl, ⟨hm, hT, seenI_nodup hT.1 V, by simp⟩, ?_⟩
    rintro x ⟨o, h1, rfl⟩
    exact hp o h1)
theorem ndItems : ND w0 12 hItems := ND.mk hX (H := [(26, hTaken), (30, hSortA 31 cfP 43)]) (HN := [(27, hMark), (28, hNames)]) (hk := [(6, loopHook (kpF 12 6) gIt6)]) drM (by kernel_rfl) (.cons okTaken (.cons okSortItem .nil)) (.cons (ndMark hX) (.cons (ndNames hX) .nil)) (.cons (lnIt6 hX) .nil) (by
  intro ps R post hh
  obtain ⟨l, live, rfl, rfl, ⟨h1, h2⟩, hp⟩ := hh
  rw [← vcItems]
  have hT := tkL_rt l
  have hTl := tkL_len l
  have hsl : (seenI (tkL l) (lvL live)).length ≤ (tkL l).length := by
    unfold seenI seenL
    rw [List.length_map]
    exact List.length_filter_le _ _
  refine ⟨l, live, rfl, rfl, ⟨by omega, by omega⟩, tkL l, lvL live, noM, 0, false, rfl, rfl, ⟨by omega, hT.1, lvL_nodup live⟩, tkL l, lvL live, inM (lvL live), _, _, true, false, rfl, rfl, ⟨by omega, hT⟩, oblI (decT ⟨by omega, by omega, by omega, by omega⟩) ⟨tkL l, lvL live, _, _, _, rfl, ⟨by omega, hT⟩, fun o ho => ?_⟩⟩
  have hol := ho.length_eq
  have hse : ((seenL (tkL l) (lvL live)).map (itemX (tkL l) (lvL live))).length ≤ 1000 := by
    rw [List.length_map]
    unfold seenI at hsl
    rw [List.length_map] at hsl
    omega
  refine ⟨o.map itmD, by rw [List.length_map], rfl, cmpOnP o (by omega), fun es' p1 p2 => ?_⟩
  obtain ⟨o2, rfl, p3⟩ := unmap itmD unIt (fun _ => rfl) p1
  rw [List.pairwise_map] at p2
  have e := itemsX_of hT (p3.trans ho) (p2.imp fun {a b} h => by rw [cfP_lt] at h; simpa using h)
  rw [e] at p3 ⊢
  rw [← p3.length_eq]
  exact hp)
end
end Pi

/- Tree: finding: what the runs ask. -/
namespace Pi
open Go Go.Proofs
set_option maxRecDepth 100000
set_option maxHeartbeats 0
abbrev itsP (l : List It) : P := .d (.sl 6 (l.map itmD))
/-- The first one of which something is so; -1: there is none. -/
def idxI {α : Type} (f : α → Bool) (l : List α) : Int := match l.findIdx? f with | some i => (i : Int) | none => -1
abbrev bxI (n : Nat) (x : Id3) : List (Nat × En) := [(n, ⟨0, none, .box 41 [.d (.int .i64 x.1), .d (.int .i64 x.2.1), .d (.int .i64 x.2.2)]⟩)]
abbrev bxS (p : List UInt8) : List (Nat × En) := [(0, ⟨0, some 0, .box 9 [.d (.str p)]⟩)]
/-! tree.Find -/
def hFind1 : KF1 := fun ps R post => ∃ (x : It) (p : List UInt8), ps = [.d (itmD x), .ref 0 0 0] ∧ R = bxS p ∧ post (.d (.bool (x.2.1 == p)), bxS p)
theorem vcFind1 (x : It) (p : List UInt8) (post : P × List (Nat × En) → Prop) : (post (P.d (D.bool (Prod.fst (Prod.snd x) == p)), [(0, En.mk 0 (some 0) (Obj.box 9 [P.d (D.str p)]))])) = (bodyF [] [] 36 [.d (itmD x), .ref 0 0 0] (bxS p)) post := by kernel_rfl
abbrev ixH (l : List It) (f : P) (n k : Int) (R : List (Nat × En)) : S := ⟨19, [(0, itsP l), (1, f), (7, iD n), (8, iD k)], R⟩
def gIxF : S → K (PX × S) := fun s post => ∃ l p, s = ixH l (.fn 36 [.ref 0 0 0]) (l.length : Int) 0 (bxS p) ∧ l.length ≤ 1000000 ∧ (∀ i : Int, i = idxI (fun x : It => x.2.1 == p) l → 0 ≤ i → post (.ret, ⟨19, [(1, .fn 36 [.ref 0 0 0]), (4, iD i)], bxS p⟩)) ∧ (idxI (fun x : It => x.2.1 == p) l = -1 → post (.exit 0, ⟨19, [(1, .fn 36 [.ref 0 0 0])], bxS p⟩))
theorem vcIxF (l : List It) (p : List UInt8) (n k : Int) (post : PX × S → Prop) : (bif decide (k < n) then bif decide ((0 : Int) ≤ k ∧ k < (↑(List.length (List.map itmD l)) : Int)) then bif isD PR 43 (D.nth (List.map itmD l) (Int.toNat k)) then ∃ (x : It), ∃ (p_1 : List UInt8), [P.d (D.agg [D.int IntKind.i64 (D.iVal (D.cAt (D.nth (List.map itmD l) (Int.toNat k)) 0)), D.int IntKind.i64 (D.iVal (D.cAt (D.nth (List.map itmD l) (Int.toNat k)) 1)), D.int IntKind.i64 (D.iVal (D.cAt (D.nth (List.map itmD l) (Int.toNat k)) 2)), D.str (D.sVal (D.cAt (D.nth (List.map itmD l) (Int.toNat k)) 3)), D.bool (D.bVal (D.cAt (D.nth (List.map itmD l) (Int.toNat k)) 4)), D.bool (D.bVal (D.cAt (D.nth (List.map itmD l) (Int.toNat k)) 5))]), P.ref 0 0 0] = [P.d (D.agg [D.int IntKind.i64 (Prod.fst (Prod.fst x)), D.int IntKind.i64 (Prod.fst (Prod.snd (Prod.fst x))), D.int IntKind.i64 (Prod.snd (Prod.snd (Prod.fst x))), D.str (Prod.fst (Prod.snd x)), D.bool (Prod.fst (Prod.snd (Prod.snd x))), D.bool (Prod.snd (Prod.snd (Prod.snd x)))]), P.ref 0 0 0] ∧ [(0, En.mk 0 (some 0) (Obj.box 9 [P.d (D.str p)]))] = [(0, En.mk 0 (some 0) (Obj.box 9 [P.d (D.str p_1)]))] ∧ bif Prod.fst (Prod.snd x) == p_1 then post (PX.ret, S.mk 19 [(1, P.fn 36 [P.ref 0 0 0]), (4, P.d (D.int IntKind.i64 k))] [(0, En.mk 0 (some 0) (Obj.box 9 [P.d (D.str p_1)]))]) else bif decide ((-9223372036854775808 : Int) ≤ k + (1 : Int) ∧ k + (1 : Int) ≤ (9223372036854775807 : Int)) then post (PX.normal, S.mk 19 [(0, P.d (D.sl 6 (List.map itmD l))), (1, P.fn 36 [P.ref 0 0 0]), (7, P.d (D.int IntKind.i64 n)), (8, P.d (D.int IntKind.i64 (k + (1 : Int))))] [(0, En.mk 0 (some 0) (Obj.box 9 [P.d (D.str p_1)]))]) else False else False else False else post (PX.exit 0, S.mk 19 [(1, P.fn 36 [P.ref 0 0 0])] [(0, En.mk 0 (some 0) (Obj.box 9 [P.d (D.str p)]))])) = (roundL [(36, hFind1)] [] 35 2 (ixH l (.fn 36 [.ref 0 0 0]) n k (bxS p))) post := by kernel_rfl
theorem vcIxFB (l : List It) (p : List UInt8) (post : P × List (Nat × En) → Prop) : (∃ (l_1 : List It), ∃ (p_1 : List UInt8), S.mk 19 [(0, P.d (D.sl 6 (List.map itmD l))), (1, P.fn 36 [P.ref 0 0 0]), (7, P.d (D.int IntKind.i64 (↑(List.length (List.map itmD l)) : Int))), (8, P.d (D.int IntKind.i64 (0 : Int)))] [(0, En.mk 0 (some 0) (Obj.box 9 [P.d (D.str p)]))] = S.mk 19 [(0, P.d (D.sl 6 (List.map itmD l_1))), (1, P.fn 36 [P.ref 0 0 0]), (7, P.d (D.int IntKind.i64 (↑(List.length l_1) : Int))), (8, P.d (D.int IntKind.i64 (0 : Int)))] [(0, En.mk 0 (some 0) (Obj.box 9 [P.d (D.str p_1)]))] ∧ List.length l_1 ≤ 1000000 ∧ (∀ (i : Int), i = idxI (fun (x : It) => Prod.fst (Prod.snd x) == p_1) l_1 → (0 : Int) ≤ i → post (P.d (D.int IntKind.i64 i), [(0, En.mk 0 (some 0) (Obj.box 9 [P.d (D.str p_1)]))])) ∧ (idxI (fun (x : It) => Prod.fst (Prod.snd x) == p_1) l_1 = (-1 : Int) → post (P.d (D.int IntKind.i64 (-1 : Int)), [(0, En.mk 0 (some 0) (Obj.box 9 [P.d (D.str p_1)]))]))) = (bodyF [] [(2, loopHook (kpF 35 2) gIxF)] 35 [itsP l, .fn 36 [.ref 0 0 0]] (bxS p)) post := by kernel_rfl
def hIxF : KF1 := fun ps R post => ∃ l p, ps = [itsP l, .fn 36 [.ref 0 0 0]] ∧ R = bxS p ∧ l.length ≤ 1000000 ∧ post (iD (idxI (fun x : It => x.2.1 == p) l), bxS p)
theorem vcFind (l : List It) (p : List UInt8) (post : P × List (Nat × En) → Prop) : (∃ (l_1 : List It), ∃ (p_1 : List UInt8), [P.d (D.sl 6 (List.map itmD l)), P.fn 36 [P.ref 0 0 0]] = [P.d (D.sl 6 (List.map itmD l_1)), P.fn 36 [P.ref 0 0 0]] ∧ [(0, En.mk 0 (some 0) (Obj.box 9 [P.d (D.str p)]))] = [(0, En.mk 0 (some 0) (Obj.box 9 [P.d (D.str p_1)]))] ∧ List.length l_1 ≤ 1000000 ∧ post (P.d (D.int IntKind.i64 (idxI (fun (x : It) => Prod.fst (Prod.snd x) == p_1) l_1)), [])) = (bodyF [(35, hIxF)] [] 14 [itsP l, sD p] []) post := by kernel_rfl
def hFindT : KF1 := fun ps R post => ∃ (l : List It) (p : List UInt8), ps = [itsP l, sD p] ∧ R = [] ∧ l.length ≤ 1000000 ∧ post (iD (idxI (fun x : It => x.2.1 == p) l), [])
/-! tree.Settled -/
def unset (x : It) : Bool := x.2.2.2 || x.2.1.contains 126
def hCont : KF1 := fun ps R post => ∃ s c, ps = [sD s, sD [c]] ∧ R = [] ∧ post (.d (.bool (s.contains c)), [])
def hSet1 : KF1 := fun ps R post => ∃ x : It, ps = [.d (itmD x)] ∧ R = [] ∧ post (.d (.bool (unset x)), [])
theorem vcSet1 (x : It) (post : P × List (Nat × En) → Prop) : (bif Prod.snd (Prod.snd (Prod.snd x)) then post (P.d (D.bool true), []) else ∃ (s : List UInt8), ∃ (c : UInt8), [P.d (D.str (Prod.fst (Prod.snd x))), P.d (D.str [(126 : UInt8)])] = [P.d (D.str s), P.d (D.str [c])] ∧ EqR [] [] ∧ post (P.d (D.bool (List.contains s c)), [])) = (bodyF [(39, hCont)] [] 38 [.d (itmD x)] []) post := by kernel_rfl
def gIxS : S → K (PX × S) := fun s post => ∃ l, s = ixH l (.fn 38 []) (l.length : Int) 0 [] ∧ l.length ≤ 1000000 ∧ (∀ i : Int, i = idxI unset l → 0 ≤ i → post (.ret, ⟨19, [(1, .fn 38 []), (4, iD i)], []⟩)) ∧ (idxI unset l = -1 → post (.exit 0, ⟨19, [(1, .fn 38 [])], []⟩))
theorem vcIxS (l : List It) (n k : Int) (post : PX × S → Prop) : (bif decide (k < n) then bif decide ((0 : Int) ≤ k ∧ k < (↑(List.length (List.map itmD l)) : Int)) then bif isD PR 43 (D.nth (List.map itmD l) (Int.toNat k)) then ∃ (x : It), [P.d (D.agg [D.int IntKind.i64 (D.iVal (D.cAt (D.nth (List.map itmD l) (Int.toNat k)) 0)), D.int IntKind.i64 (D.iVal (D.cAt (D.nth (List.map itmD l) (Int.toNat k)) 1)), D.int IntKind.i64 (D.iVal (D.cAt (D.nth (List.map itmD l) (Int.toNat k)) 2)), D.str (D.sVal (D.cAt (D.nth (List.map itmD l) (Int.toNat k)) 3)), D.bool (D.bVal (D.cAt (D.nth (List.map itmD l) (Int.toNat k)) 4)), D.bool (D.bVal (D.cAt (D.nth (List.map itmD l) (Int.toNat k)) 5))])] = [P.d (D.agg [D.int IntKind.i64 (Prod.fst (Prod.fst x)), D.int IntKind.i64 (Prod.fst (Prod.snd (Prod.fst x))), D.int IntKind.i64 (Prod.snd (Prod.snd (Prod.fst x))), D.str (Prod.fst (Prod.snd x)), D.bool (Prod.fst (Prod.snd (Prod.snd x))), D.bool (Prod.snd (Prod.snd (Prod.snd x)))])] ∧ EqR [] [] ∧ bif unset x then post (PX.ret, S.mk 19 [(1, P.fn 38 []), (4, P.d (D.int IntKind.i64 k))] []) else bif decide ((-9223372036854775808 : Int) ≤ k + (1 : Int) ∧ k + (1 : Int) ≤ (9223372036854775807 : Int)) then post (PX.normal, S.mk 19 [(0, P.d (D.sl 6 (List.map itmD l))), (1, P.fn 38 []), (7, P.d (D.int IntKind.i64 n)), (8, P.d (D.int IntKind.i64 (k + (1 : Int))))] []) else False else False else False else post (PX.exit 0, S.mk 19 [(1, P.fn 38 [])] [])) = (roundL [(38, hSet1)] [] 35 2 (ixH l (.fn 38 []) n k [])) post := by kernel_rfl
theorem vcIxSB (l : List It) (post : P × List (Nat × En) → Prop) : (∃ (l_1 : List It), S.mk 19 [(0, P.d (D.sl 6 (List.map itmD l))), (1, P.fn 38 []), (7, P.d (D.int IntKind.i64 (↑(List.length (List.map itmD l)) : Int))), (8, P.d (D.int IntKind.i64 (0 : Int)))] [] = S.mk 19 [(0, P.d (D.sl 6 (List.map itmD l_1))), (1, P.fn 38 []), (7, P.d (D.int IntKind.i64 (↑(List.length l_1) : Int))), (8, P.d (D.int IntKind.i64 (0 : Int)))] [] ∧ List.length l_1 ≤ 1000000 ∧ (∀ (i : Int), i = idxI unset l_1 → (0 : Int) ≤ i → post (P.d (D.int IntKind.i64 i), [])) ∧ (idxI unset l_1 = (-1 : Int) → post (P.d (D.int IntKind.i64 (-1 : Int)), []))) = (bodyF [] [(2, loopHook (kpF 35 2) gIxS)] 35 [itsP l, .fn 38 []] []) post := by kernel_rfl
def hIxS : KF1 := fun ps R post => ∃ l, ps = [itsP l, .fn 38 []] ∧ R = [] ∧ l.length ≤ 1000000 ∧ post (iD (idxI unset l), [])
def hCnS : KF1 := fun ps R post => ∃ l : List It, ps = [itsP l, .fn 38 []] ∧ R = [] ∧ l.length ≤ 1000000 ∧ post (.d (.bool (l.any unset)), [])
theorem vcCnS (l : List It) (post : P × List (Nat × En) → Prop) : (∃ (l_1 : List It), [P.d (D.sl 6 (List.map itmD l)), P.fn 38 []] = [P.d (D.sl 6 (List.map itmD l_1)), P.fn 38 []] ∧ EqR [] [] ∧ List.length l_1 ≤ 1000000 ∧ post (P.d (D.bool (decide (idxI unset l_1 ≥ (0 : Int)))), [])) = (bodyF [(35, hIxS)] [] 37 [itsP l, .fn 38 []] []) post := by kernel_rfl
theorem vcSet (l : List It) (post : P × List (Nat × En) → Prop) : (∃ (l_1 : List It), [P.d (D.sl 6 (List.map itmD l)), P.fn 38 []] = [P.d (D.sl 6 (List.map itmD l_1)), P.fn 38 []] ∧ EqR [] [] ∧ List.length l_1 ≤ 1000000 ∧ post (P.d (D.bool !List.any l_1 unset), [])) = (bodyF [(37, hCnS)] [] 16 [itsP l] []) post := by kernel_rfl
def hSettled : KF1 := fun ps R post => ∃ l : List It, ps = [itsP l] ∧ R = [] ∧ l.length ≤ 1000000 ∧ post (.d (.bool (!l.any unset)), [])
/-! the document's -/
abbrev fdH (l : List It) (p : List UInt8) (k : Int) : S := ⟨20, [(0, itsP l), (1, sD p), (5, iD k)], []⟩
def gFdR : S → K (PX × S) := fun s post => ∃ l p, s = fdH l p 0 ∧ l.length ≤ 1000000 ∧ (∀ i : Int, i = idxI (fun x : It => x.2.1 == p) l → 0 ≤ i → post (.ret, ⟨20, [(4, iD i)], []⟩)) ∧ (idxI (fun x : It => x.2.1 == p) l = -1 → post (.exit 0, ⟨20, [], []⟩))
theorem vcFdR (l : List It) (p : List UInt8) (k : Int) (post : PX × S → Prop) : (bif decide (k < (↑(List.length (List.map itmD l)) : Int)) then bif decide ((0 : Int) ≤ k ∧ k < (↑(List.length (List.map itmD l)) : Int)) then bif isD PR 43 (D.nth (List.map itmD l) (Int.toNat k)) then bif D.sVal (D.cAt (D.nth (List.map itmD l) (Int.toNat k)) 3) == p then post (PX.ret, S.mk 20 [(4, P.d (D.int IntKind.i64 k))] []) else bif decide ((-9223372036854775808 : Int) ≤ k + (1 : Int) ∧ k + (1 : Int) ≤ (9223372036854775807 : Int)) then post (PX.normal, S.mk 20 [(0, P.d (D.sl 6 (List.map itmD l))), (1, P.d (D.str p)), (5, P.d (D.int IntKind.i64 (k + (1 : Int))))] []) else False else False else False else post (PX.exit 0, S.mk 20 [] [])) = (roundL [] [] 15 2 (fdH l p k)) post := by kernel_rfl
theorem vcFdRB (l : List It) (p : List UInt8) (post : P × List (Nat × En) → Prop) : (∃ (l_1 : List It), ∃ (p_1 : List UInt8), S.mk 20 [(0, P.d (D.sl 6 (List.map itmD l))), (1, P.d (D.str p)), (5, P.d (D.int IntKind.i64 (0 : Int)))] [] = S.mk 20 [(0, P.d (D.sl 6 (List.map itmD l_1))), (1, P.d (D.str p_1)), (5, P.d (D.int IntKind.i64 (0 : Int)))] [] ∧ List.length l_1 ≤ 1000000 ∧ (∀ (i : Int), i = idxI (fun (x : It) => Prod.fst (Prod.snd x) == p_1) l_1 → (0 : Int) ≤ i → post (P.d (D.int IntKind.i64 i), [])) ∧ (idxI (fun (x : It) => Prod.fst (Prod.snd x) == p_1) l_1 = (-1 : Int) → post (P.d (D.int IntKind.i64 (-1 : Int)), []))) = (bodyF [] [(2, loopHook (kpF 15 2) gFdR)] 15 [itsP l, sD p] []) post := by kernel_rfl
abbrev smH (l m : List It) (k : Int) : S := ⟨26, [(0, itsP l), (1, itsP m), (5, iD k)], []⟩
def gSmI : S → K (PX × S) := fun s post => ∃ l m, s = smH l m 0 ∧ (l.length = m.length ∧ l.length ≤ 1000000) ∧ (l ≠ m → post (.ret, ⟨26, [(4, .d (.bool false))], []⟩)) ∧ (l = m → post (.exit 0, ⟨26, [], []⟩))
theorem vcSmI (l m : List It) (k : Int) (post : PX × S → Prop) : (bif decide (k < (↑(List.length (List.map itmD l)) : Int)) then bif decide ((0 : Int) ≤ k ∧ k < (↑(List.length (List.map itmD l)) : Int)) then bif isD PR 43 (D.nth (List.map itmD l) (Int.toNat k)) then bif decide ((0 : Int) ≤ k ∧ k < (↑(List.length (List.map itmD m)) : Int)) then bif isD PR 43 (D.nth (List.map itmD m) (Int.toNat k)) then bif !(D.iVal (D.cAt (D.nth (List.map itmD l) (Int.toNat k)) 0) == D.iVal (D.cAt (D.nth (List.map itmD m) (Int.toNat k)) 0) && (D.iVal (D.cAt (D.nth (List.map itmD l) (Int.toNat k)) 1) == D.iVal (D.cAt (D.nth (List.map itmD m) (Int.toNat k)) 1) && true) && (D.iVal (D.cAt (D.nth (List.map itmD l) (Int.toNat k)) 2) == D.iVal (D.cAt (D.nth (List.map itmD m) (Int.toNat k)) 2) && true) && (D.sVal (D.cAt (D.nth (List.map itmD l) (Int.toNat k)) 3) == D.sVal (D.cAt (D.nth (List.map itmD m) (Int.toNat k)) 3) && (D.bVal (D.cAt (D.nth (List.map itmD l) (Int.toNat k)) 4) == D.bVal (D.cAt (D.nth (List.map itmD m) (Int.toNat k)) 4) && (D.bVal (D.cAt (D.nth (List.map itmD l) (Int.toNat k)) 5) == D.bVal (D.cAt (D.nth (List.map itmD m) (Int.toNat k)) 5) && true)))) then post (PX.ret, S.mk 26 [(4, P.d (D.bool false))] []) else bif decide ((-9223372036854775808 : Int) ≤ k + (1 : Int) ∧ k + (1 : Int) ≤ (9223372036854775807 : Int)) then post (PX.normal, S.mk 26 [(0, P.d (D.sl 6 (List.map itmD l))), (1, P.d (D.sl 6 (List.map itmD m))), (5, P.d (D.int IntKind.i64 (k + (1 : Int))))] []) else False else False else False else False else False else post (PX.exit 0, S.mk 26 [] [])) = (roundL [] [] 11 4 (smH l m k)) post := by kernel_rfl
theorem vcSmIB (l m : List It) (post : P × List (Nat × En) → Prop) : (bif (↑(List.length (List.map itmD l)) : Int) != (↑(List.length (List.map itmD m)) : Int) then post (P.d (D.bool false), []) else ∃ (l_1 : List It), ∃ (m_1 : List It), S.mk 26 [(0, P.d (D.sl 6 (List.map itmD l))), (1, P.d (D.sl 6 (List.map itmD m))), (5, P.d (D.int IntKind.i64 (0 : Int)))] [] = S.mk 26 [(0, P.d (D.sl 6 (List.map itmD l_1))), (1, P.d (D.sl 6 (List.map itmD m_1))), (5, P.d (D.int IntKind.i64 (0 : Int)))] [] ∧ (List.length l_1 = List.length m_1 ∧ List.length l_1 ≤ 1000000) ∧ (l_1 ≠ m_1 → post (P.d (D.bool false), [])) ∧ (l_1 = m_1 → post (P.d (D.bool true), []))) = (bodyF [] [(4, loopHook (kpF 11 4) gSmI)] 11 [itsP l, itsP m] []) post := by kernel_rfl
def hSameI : KF1 := fun ps R post => ∃ l m : List It, ps = [itsP l, itsP m] ∧ R = [] ∧ l.length ≤ 1000000 ∧ post (.d (.bool (decide (l = m))), [])
/-! ref13.Find, ref09.Has -/
abbrev f13H (l : List Pl) (x : Id3) (k : Int) : S := ⟨20, [(0, plsP l), (3, .ref 0 0 0), (5, iD k)], bxI 0 x⟩
def at13 (l : List Pl) (x : Id3) : Int := idxI (fun p : Pl => p.1 == x) l
def gF13 : S → K (PX × S) := fun s post => ∃ l x, s = f13H l x 0 ∧ l.length ≤ 1000000 ∧ (∀ i : Int, i = at13 l x → 0 ≤ i → post (.ret, ⟨20, [(0, plsP l), (4, iD i)], []⟩)) ∧ (at13 l x = -1 → post (.exit 0, ⟨20, [(0, plsP l)], []⟩))
theorem vcF13 (l : List Pl) (x : Id3) (k : Int) (post : PX × S → Prop) : (bif decide (k < (↑(List.length (List.map plD l)) : Int)) then bif decide ((0 : Int) ≤ k ∧ k < (↑(List.length (List.map plD l)) : Int)) then bif isD PR 47 (D.nth (List.map plD l) (Int.toNat k)) then bif D.iVal (D.cAt (D.nth (List.map plD l) (Int.toNat k)) 0) == Prod.fst x && (D.iVal (D.cAt (D.nth (List.map plD l) (Int.toNat k)) 1) == Prod.fst (Prod.snd x) && true) && (D.iVal (D.cAt (D.nth (List.map plD l) (Int.toNat k)) 2) == Prod.snd (Prod.snd x) && true) then post (PX.ret, S.mk 20 [(0, P.d (D.sl 8 (List.map plD l))), (4, P.d (D.int IntKind.i64 k))] []) else bif decide ((-9223372036854775808 : Int) ≤ k + (1 : Int) ∧ k + (1 : Int) ≤ (9223372036854775807 : Int)) then post (PX.normal, S.mk 20 [(0, P.d (D.sl 8 (List.map plD l))), (3, P.ref 0 0 0), (5, P.d (D.int IntKind.i64 (k + (1 : Int))))] [(0, En.mk 0 none (Obj.box 41 [P.d (D.int IntKind.i64 (Prod.fst x)), P.d (D.int IntKind.i64 (Prod.fst (Prod.snd x))), P.d (D.int IntKind.i64 (Prod.snd (Prod.snd x)))]))]) else False else False else False else post (PX.exit 0, S.mk 20 [(0, P.d (D.sl 8 (List.map plD l)))] [])) = (roundL [] [] 22 2 (f13H l x k)) post := by kernel_rfl
theorem vcF13B (l : List Pl) (x : Id3) (post : P × List (Nat × En) → Prop) : (∃ (l_1 : List Pl), ∃ (x_1 : Id3), S.mk 20 [(0, P.d (D.sl 8 (List.map plD l))), (3, P.ref 0 0 0), (5, P.d (D.int IntKind.i64 (0 : Int)))] [(0, En.mk 0 none (Obj.box 41 [P.d (D.int IntKind.i64 (Prod.fst x)), P.d (D.int IntKind.i64 (Prod.fst (Prod.snd x))), P.d (D.int IntKind.i64 (Prod.snd (Prod.snd x)))]))] = S.mk 20 [(0, P.d (D.sl 8 (List.map plD l_1))), (3, P.ref 0 0 0), (5, P.d (D.int IntKind.i64 (0 : Int)))] [(0, En.mk 0 none (Obj.box 41 [P.d (D.int IntKind.i64 (Prod.fst x_1)), P.d (D.int IntKind.i64 (Prod.fst (Prod.snd x_1))), P.d (D.int IntKind.i64 (Prod.snd (Prod.snd x_1)))]))] ∧ List.length l_1 ≤ 1000000 ∧ (∀ (i : Int), i = at13 l_1 x_1 → (0 : Int) ≤ i → post (P.d (D.int IntKind.i64 i), [])) ∧ (at13 l_1 x_1 = (-1 : Int) → post (P.d (D.int IntKind.i64 (-1 : Int)), []))) = (bodyF [] [(2, loopHook (kpF 22 2) gF13)] 22 [plsP l, .d (ixD x)] []) post := by kernel_rfl
def hF13 : KF1 := fun ps R post => ∃ l x, ps = [plsP l, .d (ixD x)] ∧ R = [] ∧ l.length ≤ 1000000 ∧ post (iD (at13 l x), [])
abbrev arL (z : Bool) (l : List Pl) : List (Nat × En) := [(0, ⟨0, some 0, .arr 47 z (l.map plD)⟩)]
abbrev f13L (z : Bool) (l : List Pl) (n : Nat) (x : Id3) (k : Int) : S := ⟨20, [(0, .sl 0 0 n), (3, .ref 1 0 0), (5, iD k)], arL z l ++ bxI 1 x⟩
def gF13L : S → K (PX × S) := fun s post => ∃ z l x, s = f13L z l l.length x 0 ∧ l.length ≤ 1000000 ∧ (∀ i : Int, i = at13 l x → 0 ≤ i → post (.ret, ⟨20, [(0, .sl 0 0 l.length), (4, iD i)], arL z l⟩)) ∧ (at13 l x = -1 → post (.exit 0, ⟨20, [(0, .sl 0 0 l.length)], arL z l⟩))
theorem vcF13L (z : Bool) (l : List Pl) (n : Nat) (x : Id3) (k : Int) (post : PX × S → Prop) : (bif decide (k < (↑n : Int)) then bif decide ((0 : Int) ≤ k ∧ k < (↑n : Int)) then bif decide (Int.toNat k < List.length (List.map plD l)) then bif isD PR (47 : TypeId) (D.nth (List.map plD l) (Int.toNat k)) then bif D.iVal (D.cAt (D.nth (List.map plD l) (Int.toNat k)) 0) == Prod.fst x && (D.iVal (D.cAt (D.nth (List.map plD l) (Int.toNat k)) 1) == Prod.fst (Prod.snd x) && true) && (D.iVal (D.cAt (D.nth (List.map plD l) (Int.toNat k)) 2) == Prod.snd (Prod.snd x) && true) then post (PX.ret, S.mk 20 [(0, P.sl 0 0 n), (4, P.d (D.int IntKind.i64 k))] [(0, En.mk 0 (some 0) (Obj.arr 47 z (List.map plD l)))]) else bif decide ((-9223372036854775808 : Int) ≤ k + (1 : Int) ∧ k + (1 : Int) ≤ (9223372036854775807 : Int)) then post (PX.normal, S.mk 20 [(0, P.sl 0 0 n), (3, P.ref 1 0 0), (5, P.d (D.int IntKind.i64 (k + (1 : Int))))] [(0, En.mk 0 (some 0) (Obj.arr 47 z (List.map plD l))), (1, En.mk 0 none (Obj.box 41 [P.d (D.int IntKind.i64 (Prod.fst x)), P.d (D.int IntKind.i64 (Prod.fst (Prod.snd x))), P.d (D.int IntKind.i64 (Prod.snd (Prod.snd x)))]))]) else False else False else False else False else post (PX.exit 0, S.mk 20 [(0, P.sl 0 0 n)] [(0, En.mk 0 (some 0) (Obj.arr 47 z (List.map plD l)))])) = (roundL [] [] 22 2 (f13L z l n x k)) post := by kernel_rfl
theorem vcF13LB (z : Bool) (l : List Pl) (n : Nat) (x : Id3) (post : P × List (Nat × En) → Prop) : (∃ (z_1 : Bool), ∃ (l_1 : List Pl), ∃ (x_1 : Id3), S.mk 20 [(0, P.sl 0 0 n), (3, P.ref 1 0 0), (5, P.d (D.int IntKind.i64 (0 : Int)))] [(0, En.mk 0 (some 0) (Obj.arr 47 z (List.map plD l))), (1, En.mk 0 none (Obj.box 41 [P.d (D.int IntKind.i64 (Prod.fst x)), P.d (D.int IntKind.i64 (Prod.fst (Prod.snd x))), P.d (D.int IntKind.i64 (Prod.snd (Prod.snd x)))]))] = S.mk 20 [(0, P.sl 0 0 (List.length l_1)), (3, P.ref 1 0 0), (5, P.d (D.int IntKind.i64 (0 : Int)))] [(0, En.mk 0 (some 0) (Obj.arr 47 z_1 (List.map plD l_1))), (1, En.mk 0 none (Obj.box 41 [P.d (D.int IntKind.i64 (Prod.fst x_1)), P.d (D.int IntKind.i64 (Prod.fst (Prod.snd x_1))), P.d (D.int IntKind.i64 (Prod.snd (Prod.snd x_1)))]))] ∧ List.length l_1 ≤ 1000000 ∧ (∀ (i : Int), i = at13 l_1 x_1 → (0 : Int) ≤ i → post (P.d (D.int IntKind.i64 i), [(0, En.mk 0 (some 0) (Obj.arr 47 z_1 (List.map plD l_1)))])) ∧ (at13 l_1 x_1 = (-1 : Int) → post (P.d (D.int IntKind.i64 (-1 : Int)), [(0, En.mk 0 (some 0) (Obj.arr 47 z_1 (List.map plD l_1)))]))) = (bodyF [] [(2, loopHook (kpF 22 2) gF13L)] 22 [.sl 0 0 n, .d (ixD x)] (arL z l)) post := by kernel_rfl
def hF13L : KF1 := fun ps R post => ∃ z l x, ps = [.sl 0 0 l.length, .d (ixD x)] ∧ R = arL z l ∧ l.length ≤ 1000000 ∧ post (iD (at13 l x), arL z l)
abbrev hsH (l : List Id3) (x : Id3) (k : Int) : S := ⟨18, [(0, idsP l), (3, .ref 0 0 0), (5, iD k)], bxI 0 x⟩
def gHas : S → K (PX × S) := fun s post => ∃ l x, s = hsH l x 0 ∧ l.length ≤ 1000000 ∧ (x ∈ l → post (.ret, ⟨18, [(4, .d (.bool true))], []⟩)) ∧ (x ∉ l → post (.exit 0, ⟨18, [], []⟩))
theorem vcHas (l : List Id3) (x : Id3) (k : Int) (post : PX × S → Prop) : (bif decide (k < (↑(List.length (List.map ixD l)) : Int)) then bif decide ((0 : Int) ≤ k ∧ k < (↑(List.length (List.map ixD l)) : Int)) then bif isD PR 41 (D.nth (List.map ixD l) (Int.toNat k)) then bif D.iVal (D.cAt (D.nth (List.map ixD l) (Int.toNat k)) 0) == Prod.fst x && (D.iVal (D.cAt (D.nth (List.map ixD l) (Int.toNat k)) 1) == Prod.fst (Prod.snd x) && true) && (D.iVal (D.cAt (D.nth (List.map ixD l) (Int.toNat k)) 2) == Prod.snd (Prod.snd x) && true) then post (PX.ret, S.mk 18 [(4, P.d (D.bool true))] []) else bif decide ((-9223372036854775808 : Int) ≤ k + (1 : Int) ∧ k + (1 : Int) ≤ (9223372036854775807 : Int)) then post (PX.normal, S.mk 18 [(0, P.d (D.sl 3 (List.map ixD l))), (3, P.ref 0 0 0), (5, P.d (D.int IntKind.i64 (k + (1 : Int))))] [(0, En.mk 0 none (Obj.box 41 [P.d (D.int IntKind.i64 (Prod.fst x)), P.d (D.int IntKind.i64 (Prod.fst (Prod.snd x))), P.d (D.int IntKind.i64 (Prod.snd (Prod.snd x)))]))]) else False else False else False else post (PX.exit 0, S.mk 18 [] [])) = (roundL [] [] 21 2 (hsH l x k)) post := by kernel_rfl
theorem vcHasB (l : List Id3) (x : Id3) (post : P × List (Nat × En) → Prop) : (∃ (l_1 : List Id3), ∃ (x_1 : Id3), S.mk 18 [(0, P.d (D.sl 3 (List.map ixD l))), (3, P.ref 0 0 0), (5, P.d (D.int IntKind.i64 (0 : Int)))] [(0, En.mk 0 none (Obj.box 41 [P.d (D.int IntKind.i64 (Prod.fst x)), P.d (D.int IntKind.i64 (Prod.fst (Prod.snd x))), P.d (D.int IntKind.i64 (Prod.snd (Prod.snd x)))]))] = S.mk 18 [(0, P.d (D.sl 3 (List.map ixD l_1))), (3, P.ref 0 0 0), (5, P.d (D.int IntKind.i64 (0 : Int)))] [(0, En.mk 0 none (Obj.box 41 [P.d (D.int IntKind.i64 (Prod.fst x_1)), P.d (D.int IntKind.i64 (Prod.fst (Prod.snd x_1))), P.d (D.int IntKind.i64 (Prod.snd (Prod.snd x_1)))]))] ∧ List.length l_1 ≤ 1000000 ∧ (x_1 ∈ l_1 → post (P.d (D.bool true), [])) ∧ (¬x_1 ∈ l_1 → post (P.d (D.bool false), []))) = (bodyF [] [(2, loopHook (kpF 21 2) gHas)] 21 [idsP l, .d (ixD x)] []) post := by kernel_rfl
def hHas : KF1 := fun ps R post => ∃ l x, ps = [idsP l, .d (ixD x)] ∧ R = [] ∧ l.length ≤ 1000000 ∧ post (.d (.bool (decide (x ∈ l))), [])
end Pi

