/- The text PiLaw. -/
import Derived.Test.YtccffeofkhkbcaaGreatDoorPiTop
/- A law: what the run answers is what the row says. -/
namespace Pi
open Go Go.ChangeShapes Go.WideShapes Go.RowKit

/-- Data of a type. -/
def FitE (Q : Program) (m : Nat) (t : TypeId) (x : D) : Prop := Fit Q m t x.cells ∧ ((isAg Q t = true ∧ ∃ cs, x = .agg cs) ∨ (isAg Q t = false ∧ x.isCell = true))

def FitAll (Q : Program) (m : Nat) : List TypeId → List D → Prop
  | [], [] => True
  | t :: ts, x :: xs => FitE Q m t x ∧ FitAll Q m ts xs
  | _, _ => False

section
variable {Q : Program} {m : Nat} {t : TypeId} {x : D}
theorem fitE_int {k : IntKind} (hu : Q.underlying t = some (.int k)) (h : FitE Q (m + 1) t x) : ∃ n, x = .int k n ∧ (Lit.int k n).wf = true := by
  obtain ⟨h1, h2⟩ := h
  unfold Fit at h1
  rw [hu] at h1
  obtain ⟨b, hb, hw⟩ := h1
  rcases h2 with ⟨ha, cs, rfl⟩ | ⟨_, hc⟩
  · simp [isAg, hu] at ha
  · refine ⟨b, ?_, hw⟩; cases x <;> simp_all [D.cells, D.isCell]
theorem fitE_slice {e : TypeId} {k : Nat} (hu : Q.underlying t = some (.slice e)) (hk : Q.cellsOf e = k) (h : FitE Q (m + 1) t x) : ∃ es, x = .sl k es ∧ es.length ≤ maxLen ∧ ∀ y ∈ es, FitE Q m e y := by
  obtain ⟨h1, h2⟩ := h
  unfold Fit at h1
  rw [hu] at h1
  obtain ⟨es, hb, hw, hy⟩ := h1
  subst hk
  rcases h2 with ⟨ha, cs, rfl⟩ | ⟨_, hc⟩
  · simp [isAg, hu] at ha
  · refine ⟨es, ?_, hw, hy⟩; cases x <;> simp_all [D.cells, D.isCell]
theorem fitE_struct {fs : Array Field} {k : Nat} (hu : Q.underlying t = some (.struct fs)) (hk : Q.cellsOf t = k) (h : FitE Q (m + 1) t x) : ∃ cs, x = .agg cs ∧ cs.length = k ∧ ∀ f ∈ fs.toList, Fit Q m f.type ((cs.drop f.offset).take (Q.cellsOf f.type)) := by
  obtain ⟨h1, h2⟩ := h
  unfold Fit at h1
  rw [hu] at h1
  subst hk
  rcases h2 with ⟨ha, cs, rfl⟩ | ⟨ha, hc⟩
  · exact ⟨cs, rfl, h1.1, h1.2⟩
  · simp [isAg, hu] at ha
/-- A cell that fits. -/
theorem fit_one {c : D} (ha : isAg Q t = false) (hc : ∀ cs, c ≠ .agg cs) (h : Fit Q m t [c]) : FitE Q m t c := by
  have e : c.cells = [c] := by cases c <;> first | rfl | exact absurd rfl (hc _)
  refine ⟨by rw [e]; exact h, .inr ⟨ha, ?_⟩⟩
  cases c <;> first | rfl | exact absurd rfl (hc _)
theorem fit_int {k : IntKind} {c : D} (hu : Q.underlying t = some (.int k)) (h : Fit Q (m + 1) t [c]) : ∃ n, c = .int k n ∧ (Lit.int k n).wf = true := by
  unfold Fit at h
  rw [hu] at h
  obtain ⟨b, hb, hw⟩ := h
  exact ⟨b, by simpa using hb, hw⟩
end

section
variable {H : Type} {enc : TypeId × Value → H} {Q : Program} {w : World}

theorem cells_one {v c : Value} (h : v.cells.toList = [c]) (hv : ∀ cs, v ≠ .agg cs) : v = c := by
  cases v <;> first | exact absurd rfl (hv _) | (simp [Value.cells] at h; exact h)

theorem arg_rep {m : Nat} {t : TypeId} {v : Value} {d : DataW H} {ps : List MemPlace} {base : Nat} (hp : plainT Q m t = true) (hok : Value.okWide Q w .any base t v) (h : DataW.Trod enc Q w 0 (fun _ => true) true t v d ps) :
    ∃ x, DRep (· < w.heap.size) w v x ∧ FitE Q m t x := by
  obtain ⟨n, hn⟩ := h
  obtain ⟨xs, hr, hf⟩ := trod_rep m n t _ _ hn hp
  cases ha : isAg Q t with
  | true =>
    have hv : ∃ cs, v = .agg cs := by
      rw [isAg_of] at ha
      unfold Value.okWide at hok
      split at ha
      · rename_i hu; rw [hu] at hok; obtain ⟨cs, rfl, _⟩ := hok; exact ⟨cs, rfl⟩
      · rename_i hu; rw [hu] at hok; obtain ⟨cs, rfl, _⟩ := hok; exact ⟨cs, rfl⟩
      · cases ha
    obtain ⟨⟨cs⟩, rfl⟩ := hv
    exact ⟨.agg xs, .agg cs xs hr.1.symm hr.2.1 hr.2.2, hf, .inl ⟨ha, _, rfl⟩⟩
  | false =>
    obtain ⟨c, rfl⟩ := fit_cell hf ha
    have hv : ∀ cs, v ≠ .agg cs := by
      intro cs e
      subst e
      cases m with
      | zero => exact hf.elim
      | succ m =>
        unfold plainT at hp
        unfold Value.okWide at hok
        split at hp
        · rename_i hu; simp [hu, Cell.okWide, Cell.ok] at hok
        · rename_i hu; simp [hu, Cell.okWide, Cell.ok] at hok
        · rename_i hu; simp [hu, Cell.okWide, Cell.ok] at hok
        · rename_i hu; simp [hu, Cell.okWide, Cell.ok] at hok
        · rename_i hu; rw [isAg_of, hu] at ha; cases ha
        · cases hp
    have hl := hr.1
    obtain ⟨u, hu⟩ : ∃ u, v.cells.toList = [u] := by
      cases hc : v.cells.toList with
      | nil => rw [hc] at hl; simp at hl
      | cons u r => rw [hc] at hl; simp at hl; subst hl; exact ⟨u, rfl⟩
    have e := cells_one hu hv
    subst e
    have hc := hr.2.1 c (by simp)
    have hcc : c.cells = [c] := by cases c <;> first | rfl | simp [D.isCell] at hc
    exact ⟨c, hr.2.2 0 v c (by rw [hu]; rfl) rfl, by rw [hcc]; exact hf, .inr ⟨ha, hc⟩⟩

theorem args_rep {m base : Nat} : ∀ (ts : List TypeId) (vs : List Value) (ds : List (DataW H)) (ps : List MemPlace), (∀ t ∈ ts, plainT Q m t = true) → (∀ (j : Nat) t v, ts[j]? = some t → vs[j]? = some v → Value.okWide Q w .any base t v) →
    DataW.TrodAll enc Q w 0 (fun _ => true) true ts vs ds ps → ∃ xs, xs.length = vs.length ∧ (∀ (i : Nat) v x, vs[i]? = some v → xs[i]? = some x → DRep (· < w.heap.size) w v x) ∧ FitAll Q m ts xs
  | [], vs, ds, ps, _, _, h => by
    obtain ⟨rfl, _, _⟩ := trodAll_nil h
    exact ⟨[], rfl, fun i v x h1 => by simp at h1, trivial⟩
  | t :: ts, vs, ds, ps, hp, hok, h => by
    obtain ⟨v, vs', d, ds', p, q, rfl, rfl, rfl, h1, h2⟩ := trodAll_cons h
    obtain ⟨x, g1, g2⟩ := arg_rep (hp t (by simp)) (hok 0 t v rfl rfl) h1
    obtain ⟨xs, k1, k2, k3⟩ := args_rep ts vs' ds' q (fun u hu => hp u (by simp [hu])) (fun j u v' hu hv => hok (j + 1) u v' (by simpa using hu) (by simpa using hv)) h2
    refine ⟨x :: xs, by simp [k1], fun i v' y hv hy => ?_, g2, k3⟩
    cases i with
    | zero => simp at hv hy; subst hv; subst hy; exact g1
    | succ i => exact k2 i v' y (by simpa using hv) (by simpa using hy)

/-- Where nothing below has turned, the arguments read as they did. -/
theorem args_stay {W W' : World} (hl : laidOutB Q = true) (hb : Below W.heap.size W W') {sp : Nat → Bool} : ∀ (ts : List TypeId) (vs : List Value) (ds : List (DataW H)) (ps : List MemPlace), (∀ t ∈ ts, Q.readableRec t = true ∧ t < Q.types.size) →
    DataW.TrodAll enc Q W 0 (fun _ => true) true ts vs ds ps → (∀ p ∈ ps, p.block < W.heap.size) → (∀ p ∈ ps, sp p.block = true) → DataW.TrodAll enc Q W' 0 sp true ts vs ds ps
  | [], vs, ds, ps, _, h, _, _ => by
    obtain ⟨rfl, rfl, rfl⟩ := trodAll_nil h
    exact trodAll_mk0
  | t :: ts, vs, ds, ps, hr, h, hlt, hsp => by
    obtain ⟨v, vs', d, ds', p, q, rfl, rfl, rfl, h1, h2⟩ := trodAll_cons h
    refine ⟨p, q, WideElems.Trod_stays hl (hr t (by simp)).1 (hr t (by simp)).2 h1 (fun x hx => hb.same (hlt x (by simp [hx]))) (fun x hx => hsp x (by simp [hx])), ?_, rfl⟩
    exact args_stay hl hb ts vs' ds' q (fun u hu => hr u (by simp [hu])) h2 (fun x hx => hlt x (by simp [hx])) (fun x hx => hsp x (by simp [hx]))

theorem law_post {f : Func} {s : ChangeSpec} {apart fresh handsOn again : Bool} {W W' : World} {args : Array Value} {ds gs : List (DataW H)} {before : List MemPlace} {tb : TypeId} (hl : laidOutB Q = true) (hb : Below W.heap.size W W')
    (hrec : ∀ t ∈ f.params.toList, Q.readableRec t = true ∧ t < Q.types.size) (hvars : s.vars = []) (hres : f.resultTypes = #[tb]) (htb : Q.underlying tb = some .bool)
    (hspec : s.fn H ds = { results := [.lit (.bool true)], args := ds })
    (hW : DataW.Whole enc Q f.params.toList s.vars apart W args.toList ds gs before) : s.post enc Q f apart fresh handsOn again W args (.bool true) W' := by
  have hW' := hW
  obtain ⟨p, q, hA, hV, rfl, hz, hn⟩ := hW
  rw [hvars] at hV
  obtain ⟨rfl, rfl⟩ := trodVars_none hV
  have hlt : ∀ x ∈ p, x.block < W.heap.size := fun x hx => by simpa using hW'.lt x (by simpa using hx)
  have hsp : s.fn H (ds ++ []) = { results := [.lit (.bool true)], args := ds } := by rw [List.append_nil]; exact hspec
  have res : ∀ (b : Nat) (sp : Nat → Bool) (hd : Bool), DataW.TrodAll enc Q W' b sp hd f.resultTypes.toList ((Value.bool true).resultList f.resultTypes.size) [.lit (.bool true)] [] := fun b sp hd => by
    rw [hres]
    exact ⟨[], [], shut_bool htb true, rfl, rfl⟩
  have keep : ∀ sp : Nat → Bool, (∀ x ∈ p, sp x.block = true) → DataW.TrodAll enc Q W' 0 sp true f.params.toList args.toList ds p := fun sp hs => args_stay hl hb _ _ _ _ hrec hA hlt hs
  refine ⟨ds, [], p ++ [], [], p, [], hW', ?_, ?_, ?_, hb.frame _, fun _ => ⟨?_, ?_⟩⟩
  · rw [hsp]; exact res _ _ _
  · rw [hsp]; exact keep _ (fun x hx => by simpa using hlt x hx)
  · rw [hsp, hvars]; rfl
  · exact ok_one hres rfl (okWide_bool_mk htb true)
  · refine ⟨_, [], p ++ [], ⟨[] ++ p, [], trodAll_append (keep _ (fun _ _ => rfl)) (res _ _ _), by rw [hvars]; rfl, by simp, ?_, ?_⟩, fun x hx _ => hx⟩
    · intro b off hp
      have hp' : MemPlace.cell b off ∈ p := by simpa using hp
      rw [hb.frozen (p := ⟨b, off, none⟩) (hlt _ hp')]
      exact hz b off (by simpa using hp')
    · intro ha
      simpa using hn ha

end

theorem calls_of_run {Q : Program} {kp : Cfg} (hm : Q.follows .mixedOrders = true) {lf k : Nat} {f : FuncId} {fn : Func} (hfn : Q.funcs[f]? = some fn) (hbody : fn.body.isSome = true) (hname : (fn.name == "runtime.NumGoroutine") = false)
    {xs : List D} {p : P} {R1 : List (Nat × En)} (hrun : runF Q kp lf k f (xs.map P.d) [] = some (p, R1)) {w : World} (hX : CFOK Q { w with drawn := 0 } kp.X) {vs : List Value} (hlen : xs.length = vs.length) (hrep : ∀ (i : Nat) v x, vs[i]? = some v → xs[i]? = some x → DRep (· < w.heap.size) w v x) :
    Calls Q f ⟨vs⟩ w (fun e w' => ∃ v F' G', e = .returned v ∧ PRep F' w' G' R1 v p ∧ Below w.heap.size w w') := by
  have hH : HRel Q ⟨fun _ => undef, { w with drawn := 0 }⟩ (· < w.heap.size) (fun _ => undef) w [] :=
    ⟨rfl, Nat.zero_le _, fun t p hp => by simp [lk] at hp, fun n e he => by simp [lk] at he, fun n m e e' b he => by simp [lk] at he, fun n e b he => by simp [lk] at he, fun b hb => hb, fun n e i he => by simp [lk] at he, fun b hb => ⟨hb, rfl⟩, Nat.zero_le _⟩
  have hout := runF_ok hX hm k f (xs.map P.d) [] p R1 hrun (· < w.heap.size) (fun _ => undef) w vs hH (by simp [hlen]) (fun i v c hv hc => by
    rw [List.getElem?_map] at hc
    cases hx : xs[i]? with
    | none => rw [hx] at hc; cases hc
    | some x => rw [hx] at hc; cases hc; exact .d (hrep i v x hv hx))
  have hcall : (callFunc f ⟨vs⟩).run Q w = .ok (.enter f ⟨vs⟩) w := by
    simp [callFunc, hfn]
    rw [if_neg (by simpa using hname)]
    cases hb : fn.body with
    | none => rw [hb] at hbody; cases hbody
    | some c => simp
  rcases hout with ⟨_, h⟩ | ⟨v, w', h, _⟩
  · refine h.mono fun e w' ⟨v, he, F', G', h1, h2, h3⟩ => ⟨v, F', G', he, h2, h3.os, h3.tape, h3.output, h3.size, fun b hb => h3.keep b hb (fun ⟨n, e, he, _⟩ => by simp [lk] at he)⟩
  · rw [hcall] at h
    cases h

theorem trodAll_len {H : Type} {enc : TypeId × Value → H} {Q : Program} {w : World} : ∀ (ts : List TypeId) (vs : List Value) (ds : List (DataW H)) (ps : List MemPlace), DataW.TrodAll enc Q w 0 (fun _ => true) true ts vs ds ps → ds.length = ts.length
  | [], vs, ds, ps, h => by
    obtain ⟨_, rfl, _⟩ := trodAll_nil h
    rfl
  | t :: ts, vs, ds, ps, h => by
    obtain ⟨v, vs', d, ds', p, q, rfl, rfl, rfl, h1, h2⟩ := trodAll_cons h
    simp [trodAll_len ts vs' ds' q h2]

/-- No function is told. -/
def noX : CF := fun _ _ _ => none
theorem noX_ok (Q : Program) (w : World) : CFOK Q w noX := fun fid ps R p R1 h => by simp [noX] at h

/-- A law's contract, from its run. -/
theorem law_contract {Q : Program} {kp : Cfg} (hm : Q.follows .mixedOrders = true) {m : Nat} {f : FuncId} {fn : Func} (hfn : Q.funcs[f]? = some fn) (hbody : fn.body.isSome = true) (hname : (fn.name == "runtime.NumGoroutine") = false)
    {H : Type} {enc : TypeId × Value → H} {s : ChangeSpec} {apart fresh handsOn again : Bool} {tb : TypeId} (hl : laidOutB Q = true) (hrec : ∀ t ∈ fn.params.toList, Q.readableRec t = true ∧ t < Q.types.size) (hplain : ∀ t ∈ fn.params.toList, plainT Q m t = true) (hvars : s.vars = []) (hres : fn.resultTypes = #[tb]) (htb : Q.underlying tb = some .bool)
    {W : World} (hX : CFOK Q { W with drawn := 0 } kp.X) {base : Nat} {args : Array Value} {ds gs : List (DataW H)} {before : List MemPlace} (hval : ∀ (j : Nat) t v, fn.params[j]? = some t → args[j]? = some v → Value.okWide Q W .any base t v)
    (hW : DataW.Whole enc Q fn.params.toList s.vars apart W args.toList ds gs before) (hspec : ∀ ds : List (DataW H), ds.length = fn.params.toList.length → s.fn H ds = { results := [.lit (.bool true)], args := ds })
    (hrun : ∀ xs, FitAll Q m fn.params.toList xs → ∃ lf k R, runF Q kp lf k f (xs.map P.d) [] = some (.d (.bool true), R)) :
    Calls Q f args W fun e W' => ∃ v, e = .returned v ∧ s.post enc Q fn apart fresh handsOn again W args v W' := by
  obtain ⟨p, q, hA, hV, _⟩ := id hW
  obtain ⟨xs, h1, h2, h3⟩ := args_rep (Q := Q) (w := W) (base := base) fn.params.toList args.toList ds p hplain (fun j t v ht hv => hval j t v (by simpa using ht) (by simpa using hv)) hA
  obtain ⟨lf, k, R, hR⟩ := hrun xs h3
  have hc := calls_of_run hm hfn hbody hname hR hX (vs := args.toList) h1 h2
  refine hc.mono fun e W' ⟨v, F', G', he, hp, hb⟩ => ⟨v, he, ?_⟩
  have : v = .bool true := PRep.toV (p := .d (.bool true)) hp rfl
  subst this
  exact law_post hl hb hrec hvars hres htb (hspec ds (trodAll_len _ _ _ _ hA)) hW
end Pi

