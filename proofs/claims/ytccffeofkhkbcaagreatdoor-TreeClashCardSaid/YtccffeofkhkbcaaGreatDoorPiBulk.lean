/- The text PiBulk. -/
import Derived.Test.YtccffeofkhkbcaaGreatDoorEbt
/- How much the arguments hold. -/
namespace Pi
open Go Go.ChangeShapes Go.WideShapes Go.RowKit

mutual
def bulk1 : D → Nat
  | .str l => l.length
  | .sl _ es => bulkL es
  | .agg cs => bulkCs cs
  | _ => 0
def bulkL : List D → Nat
  | [] => 0
  | x :: r => 1 + bulk1 x + bulkL r
def bulkCs : List D → Nat
  | [] => 0
  | x :: r => bulk1 x + bulkCs r
end
theorem bulk_cells (x : D) : bulkCs x.cells = bulk1 x := by
  cases x <;> simp [D.cells, bulkCs, bulk1]
theorem bulkCs_app : ∀ (a b : List D), bulkCs (a ++ b) = bulkCs a + bulkCs b
  | [], b => by simp [bulkCs]
  | x :: a, b => by simp [bulkCs, bulkCs_app a b]; omega

mutual
def bulkW {H : Type} : DataW H → Nat
  | .lit (.string bytes) => bytes.length + 1
  | .slice elems spare => bulkWs elems + bulkWs spare + 1
  | .agg parts => bulkWs parts + 1
  | _ => 1
def bulkWs {H : Type} : List (DataW H) → Nat
  | [] => 0
  | d :: r => bulkW d + bulkWs r
end

section
variable {H : Type} {enc : TypeId × Value → H} {Q : Program} {w : World}

theorem reps_one {v : Value} {c : D} (h : Reps w [v] [c]) : DRep (· < w.heap.size) w v c := h.2.2 0 v c rfl rfl

theorem tile_bulk (tot : Nat) (ys : List D) (hy : ys.length = tot) (β : Nat → Nat) : ∀ (fs : List Field) (off j : Nat), tileB Q off fs tot = true → off ≤ tot →
    (∀ (i : Nat) (f : Field), fs[i]? = some f → bulkCs ((ys.drop f.offset).take (Q.cellsOf f.type)) ≤ β (j + i)) → bulkCs (ys.drop off) ≤ (List.range fs.length).foldl (fun a i => a + β (j + i)) 0
  | [], off, j, ht, hle, _ => by
    have : off = tot := Nat.eq_of_beq_eq_true ht
    rw [List.drop_eq_nil_of_le (by omega)]
    simp [bulkCs]
  | f :: r, off, j, ht, hle, hf => by
    simp only [tileB, Bool.and_eq_true] at ht
    have ho : f.offset = off := Nat.eq_of_beq_eq_true ht.1
    have hle2 : off + Q.cellsOf f.type ≤ tot := by
      have : ∀ (fs : List Field) (o : Nat), tileB Q o fs tot = true → o ≤ tot := by
        intro fs
        induction fs with
        | nil => intro o h; exact Nat.le_of_eq (Nat.eq_of_beq_eq_true h)
        | cons g gs ih =>
          intro o h
          simp only [tileB, Bool.and_eq_true] at h
          have := ih _ h.2
          omega
      exact this r _ ht.2
    have ih := tile_bulk tot ys hy β r (off + Q.cellsOf f.type) (j + 1) ht.2 hle2 fun i g hg => by
      have := hf (i + 1) g (by simpa using hg)
      rwa [show j + 1 + i = j + (i + 1) by omega]
    have h0 := hf 0 f rfl
    rw [ho, Nat.add_zero] at h0
    have e : bulkCs (ys.drop off) = bulkCs ((ys.drop off).take (Q.cellsOf f.type)) + bulkCs (ys.drop (off + Q.cellsOf f.type)) := by
      rw [← bulkCs_app]
      congr 1
      rw [← List.drop_drop, List.take_append_drop]
    have sum0 : ∀ (g : Nat → Nat) (l : List Nat) (a : Nat), l.foldl (fun a i => a + g i) a = a + l.foldl (fun a i => a + g i) 0 := by
      intro g l
      induction l with
      | nil => intro a; simp
      | cons x l ih => intro a; simp only [List.foldl_cons]; rw [ih, ih (0 + g x)]; omega
    rw [List.length_cons, List.range_succ_eq_map, List.foldl_cons, List.foldl_map, sum0, e]
    have e2 : (fun (a i : Nat) => a + β (j + i.succ)) = fun a i => a + β (j + 1 + i) := by
      funext a i
      rw [show j + i.succ = j + 1 + i by omega]
    rw [e2, Nat.zero_add, Nat.add_zero]
    omega

theorem sum_range (xs : List (DataW H)) : (List.range xs.length).foldl (fun a i => a + (match xs[i]? with | some d => bulkW d | none => 0)) 0 = bulkWs xs := by
  have sum0 : ∀ (g : Nat → Nat) (l : List Nat) (a : Nat), l.foldl (fun a i => a + g i) a = a + l.foldl (fun a i => a + g i) 0 := by
    intro g l
    induction l with
    | nil => intro a; simp
    | cons x l ih => intro a; simp only [List.foldl_cons]; rw [ih, ih (0 + g x)]; omega
  induction xs with
  | nil => rfl
  | cons d r ih =>
    rw [List.length_cons, List.range_succ_eq_map, List.foldl_cons, List.foldl_map, sum0]
    simp only [List.getElem?_cons_succ, List.getElem?_cons_zero, bulkWs]
    rw [ih]
    omega

theorem bulkL_le : ∀ (es : List D) (ds : List (DataW H)), es.length = ds.length → (∀ (i : Nat) (y : D) (d : DataW H), es[i]? = some y → ds[i]? = some d → 1 + bulk1 y ≤ bulkW d) → bulkL es ≤ bulkWs ds
  | [], _, _, _ => by simp [bulkL]
  | y :: es, [], h, _ => by simp at h
  | y :: es, d :: ds, h, hh => by
    have h0 := hh 0 y d rfl rfl
    have ih := bulkL_le es ds (by simpa using h) fun i y d h1 h2 => hh (i + 1) y d (by simpa using h1) (by simpa using h2)
    simp only [bulkL, bulkWs]
    omega

theorem trod_bulk : ∀ (m : Nat) (n : Nat) (t : TypeId) (cs : List Value) (x : DataW H × List MemPlace) (xs : List D), DataW.trod enc Q w 0 (fun _ => true) true n t cs = some x → plainT Q m t = true → Reps w cs xs → Fit Q m t xs → 1 + bulkCs xs ≤ bulkW x.1 := by
  intro m
  induction m with
  | zero => intro n t cs x xs _ h; simp [plainT] at h
  | succ m ih =>
    intro n t cs x xs hx hp hr hf
    unfold plainT at hp
    unfold Fit at hf
    split at hp
    · rename_i hu
      obtain ⟨b, rfl, rfl⟩ := DataW.trod_bool hu hx
      rw [hu] at hf
      obtain ⟨b', rfl⟩ := hf
      simp [bulkCs, bulk1, bulkW]
    · rename_i k hu
      obtain ⟨b, rfl, rfl, hw⟩ := DataW.trod_int hu hx
      rw [hu] at hf
      obtain ⟨b', rfl, _⟩ := hf
      simp [bulkCs, bulk1, bulkW]
    · rename_i hu
      obtain ⟨b, rfl, rfl, hw⟩ := DataW.trod_string hu hx
      rw [hu] at hf
      obtain ⟨l, rfl, _⟩ := hf
      have := (reps_one hr).toVc (u := .string ⟨⟨l⟩⟩) rfl
      simp only [Value.string.injEq] at this
      subst this
      simp [bulkCs, bulk1, bulkW]
      omega
    · rename_i e hu
      simp only [Bool.and_eq_true] at hp
      have hk : 0 < Q.cellsOf e := by have := hp.2; simp [Nat.blt] at this; omega
      rw [hu] at hf
      obtain ⟨es, rfl, _, hfe⟩ := hf
      rcases DataW.trod_slice hu hx with ⟨rfl, rfl⟩ | ⟨a, len, cap, elems, rest, n', rfl, rfl, rfl, hb, hlc, hcm, hel, hget, _, _⟩
      · have hv := reps_one hr
        cases hv
        simp [bulkCs, bulk1, bulkL, bulkW]
      · have hv := reps_one hr
        cases hv with
        | slE a k cap => simp [bulkCs, bulk1, bulkL, bulkW]
        | slN b off k cap es f hcap hb' hkk hcell hw hrr =>
          have key : bulkL es ≤ bulkWs (elems.map (·.1)) := by
            refine bulkL_le es _ (by simp [hel]) fun i y d hy hd => ?_
            rw [List.getElem?_map] at hd
            cases he : elems[i]? with
            | none => rw [he] at hd; cases hd
            | some z =>
              rw [he] at hd
              simp only [Option.map_some, Option.some.injEq] at hd
              subst hd
              have hi : i < es.length := (List.getElem?_eq_some_iff.1 hy).1
              have h1 := hget i hi
              rw [he, Option.bind_eq_some_iff] at h1
              obtain ⟨cs', h2, h3⟩ := h1
              obtain ⟨_, hl2, hc2⟩ := World.cells?_some h2
              have hmem : y ∈ es := List.mem_of_getElem? hy
              obtain ⟨f1, f2⟩ := hfe y hmem
              have hrep : Reps w cs' y.cells := by
                refine ⟨by rw [hkk y hmem, hl2], hcell y hmem, fun j v c hv hc => ?_⟩
                have hj : j < Q.cellsOf e := by
                  have := (List.getElem?_eq_some_iff.1 hc).1
                  rw [hkk y hmem] at this
                  exact this
                have h5 := hc2 j hj
                rw [hv] at h5
                have hq : i * Q.cellsOf e + j < es.length * Q.cellsOf e := by
                  calc i * Q.cellsOf e + j < i * Q.cellsOf e + Q.cellsOf e := by omega
                    _ = (i + 1) * Q.cellsOf e := by rw [Nat.add_mul, Nat.one_mul]
                    _ ≤ es.length * Q.cellsOf e := Nat.mul_le_mul_right _ hi
                have h6 := hw _ hq
                have h7 : w.cell? ⟨b, off + (i * Q.cellsOf e + j), none⟩ = some v := by
                  rw [← h5, addr_add, addr_add, Nat.add_assoc]
                rw [h6] at h7
                cases h7
                exact hrr i j y c hy hc
              have := ih _ _ _ _ _ h3 hp.1 hrep f1
              rwa [bulk_cells] at this
          simp only [bulkCs, bulk1, bulkW]
          omega
    · rename_i fs hu
      simp only [Bool.and_eq_true] at hp
      rw [hu] at hf
      obtain ⟨hl0, hff⟩ := hf
      obtain ⟨zs, n', rfl, rfl, hl, hn, hz⟩ := DataW.trod_struct hu hx
      have := tile_bulk (Q := Q) (Q.cellsOf t) xs hl0 (fun i => match (zs.map (·.1))[i]? with | some d => bulkW d | none => 0) fs.toList 0 0 hp.1 (Nat.zero_le _) fun i f hif => by
        have hi : i < fs.size := by have := (List.getElem?_eq_some_iff.1 hif).1; simpa using this
        have hif' : fs[i]? = some f := by simpa using hif
        have h1 := hz i f hif'
        have hlt : i < zs.length := by omega
        rw [List.getElem?_eq_getElem hlt] at h1
        have hmem : f ∈ fs.toList := List.mem_of_getElem? hif
        have hpl := List.all_eq_true.1 hp.2 _ hmem
        have hrep : Reps w ((cs.drop f.offset).take (Q.cellsOf f.type)) ((xs.drop f.offset).take (Q.cellsOf f.type)) := by
          refine ⟨by simp [hr.1], fun c hc => hr.2.1 c (List.mem_of_mem_drop (List.mem_of_mem_take hc)), fun j v c hv hc => ?_⟩
          rw [List.getElem?_take] at hv hc
          split at hv
          · rw [if_pos (by assumption)] at hc
            rw [List.getElem?_drop] at hv hc
            exact hr.2.2 _ v c hv hc
          · cases hv
        have h2 := ih _ _ _ _ _ h1 hpl hrep (hff f hmem)
        simp only [Nat.zero_add, List.getElem?_map, List.getElem?_eq_getElem hlt, Option.map_some]
        omega
      rw [List.drop_zero] at this
      have hs := sum_range (zs.map (·.1))
      rw [List.length_map] at hs
      simp only [Nat.zero_add] at this
      rw [Array.length_toList, ← hn, hs] at this
      simp only [bulkW]
      omega
    · cases hp

theorem reps_cells {v : Value} {x : D} (h : DRep (· < w.heap.size) w v x) : Reps w v.cells.toList x.cells := by
  have one : ∀ (v : Value) (c : D), c.isCell = true → DRep (· < w.heap.size) w v c → Reps w [v] [c] := fun v c hc hr => ⟨rfl, by simpa using hc, fun i v' c' h1 h2 => by
    cases i with
    | zero => simp at h1 h2; subst h1; subst h2; exact hr
    | succ i => simp at h1⟩
  cases h with
  | agg vs cs hl hcell hc => exact ⟨by simpa [Value.cells, D.cells] using hl.symm, hcell, fun i v c h1 h2 => hc i v c (by simpa [Value.cells] using h1) h2⟩
  | bool b => exact one _ _ rfl (.bool b)
  | int k n => exact one _ _ rfl (.int k n)
  | str s => exact one _ _ rfl (.str s)
  | nils => exact one _ _ rfl .nils
  | nilp => exact one _ _ rfl .nilp
  | nilm => exact one _ _ rfl .nilm
  | nilf => exact one _ _ rfl .nilf
  | nili => exact one _ _ rfl .nili
  | slE a k cap => exact one _ _ rfl (.slE a k cap)
  | slN b off k cap es f hcap hb hk hcell hw hr => exact one _ _ rfl (.slN b off k cap es f hcap hb hk hcell hw hr)
theorem args_bulk {m base : Nat} : ∀ (ts : List TypeId) (vs : List Value) (ds : List (DataW H)) (ps : List MemPlace), (∀ t ∈ ts, plainT Q m t = true) → (∀ (j : Nat) t v, ts[j]? = some t → vs[j]? = some v → Value.okWide Q w .any base t v) →
    DataW.TrodAll enc Q w 0 (fun _ => true) true ts vs ds ps → ∀ xs : List D, xs.length = vs.length → (∀ (i : Nat) v x, vs[i]? = some v → xs[i]? = some x → DRep (· < w.heap.size) w v x) → FitAll Q m ts xs → bulkL xs ≤ bulkWs ds
  | [], vs, ds, ps, _, _, h, xs, hl, _, _ => by
    obtain ⟨rfl, rfl, _⟩ := trodAll_nil h
    have : xs = [] := by simpa using hl
    subst this
    simp [bulkL]
  | t :: ts, vs, ds, ps, hp, hok, h, xs, hl, hr, hf => by
    obtain ⟨v, vs', d, ds', p, q, rfl, rfl, rfl, h1, h2⟩ := trodAll_cons h
    match xs, hl, hf with
    | x :: xs, hl, hf =>
      have ih := args_bulk ts vs' ds' q (fun u hu => hp u (by simp [hu])) (fun j u v' hu hv => hok (j + 1) u v' (by simpa using hu) (by simpa using hv)) h2 xs (by simpa using hl) (fun i v x hv hx => hr (i + 1) v x (by simpa using hv) (by simpa using hx)) hf.2
      have hx := hr 0 v x rfl rfl
      have hone : 1 + bulk1 x ≤ bulkW d := by
        obtain ⟨n, hn⟩ := h1
        have hreps : Reps w v.cells.toList x.cells := reps_cells hx
        have := trod_bulk m n t _ _ x.cells hn (hp t (by simp)) hreps hf.1.1
        rwa [bulk_cells] at this
      simp only [bulkL, bulkWs]
      omega
/-- A law where what comes in is of a bulk. -/
theorem law_contract_bulk {Q : Program} {kp : Cfg} (hm : Q.follows .mixedOrders = true) {m : Nat} {f : FuncId} {fn : Func} (hfn : Q.funcs[f]? = some fn) (hbody : fn.body.isSome = true) (hname : (fn.name == "runtime.NumGoroutine") = false)
    {H : Type} {enc : TypeId × Value → H} {s : ChangeSpec} {apart fresh handsOn again : Bool} {tb : TypeId} (hl : laidOutB Q = true) (hrec : ∀ t ∈ fn.params.toList, Q.readableRec t = true ∧ t < Q.types.size) (hplain : ∀ t ∈ fn.params.toList, plainT Q m t = true) (hvars : s.vars = []) (hres : fn.resultTypes = #[tb]) (htb : Q.underlying tb = some .bool)
    {W : World} (hX : CFOK Q { W with drawn := 0 } kp.X) {base : Nat} {args : Array Value} {ds gs : List (DataW H)} {before : List MemPlace} (hval : ∀ (j : Nat) t v, fn.params[j]? = some t → args[j]? = some v → Value.okWide Q W .any base t v)
    (hW : DataW.Whole enc Q fn.params.toList s.vars apart W args.toList ds gs before) (hspec : ∀ ds : List (DataW H), ds.length = fn.params.toList.length → s.fn H ds = { results := [.lit (.bool true)], args := ds })
    (hrun : ∀ xs, FitAll Q m fn.params.toList xs → bulkL xs ≤ bulkWs ds → ∃ lf k R, runF Q kp lf k f (xs.map P.d) [] = some (.d (.bool true), R)) :
    Calls Q f args W fun e W' => ∃ v, e = .returned v ∧ s.post enc Q fn apart fresh handsOn again W args v W' := by
  obtain ⟨p, q, hA, hV, _⟩ := id hW
  have hval' : ∀ (j : Nat) t v, fn.params.toList[j]? = some t → args.toList[j]? = some v → Value.okWide Q W .any base t v := fun j t v ht hv => hval j t v (by simpa using ht) (by simpa using hv)
  obtain ⟨xs, h1, h2, h3⟩ := args_rep (Q := Q) (w := W) (base := base) fn.params.toList args.toList ds p hplain hval' hA
  have h4 := args_bulk (Q := Q) (w := W) (base := base) fn.params.toList args.toList ds p hplain hval' hA xs h1 h2 h3
  obtain ⟨lf, k, R, hR⟩ := hrun xs h3 h4
  have hc := calls_of_run hm hfn hbody hname hR hX (vs := args.toList) h1 h2
  refine hc.mono fun e W' ⟨v, F', G', he, hp, hb⟩ => ⟨v, he, ?_⟩
  have : v = .bool true := PRep.toV (p := .d (.bool true)) hp rfl
  subst this
  exact law_post hl hb hrec hvars hres htb (hspec ds (trodAll_len _ _ _ _ hA)) hW
end
end Pi

