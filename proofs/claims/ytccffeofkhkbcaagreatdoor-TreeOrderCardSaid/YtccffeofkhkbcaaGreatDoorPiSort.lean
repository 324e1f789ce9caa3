/- The text PiSort. -/
import Derived.Test.YtccffeofkhkbcaaGreatDoorPiTold
import Derived.Shelf.SlSortCmp.NoneTotal
/- slices.SortFunc, told: elements of several cells. -/
namespace Pi
open Go Go.RowKit

section
variable {Q : Program}
/-- What a comparing function answers. -/
def Cmps (Q : Program) (kp : Cfg) (g : FuncId) (x y : D) (i : Int) : Prop := Ev fun lf k => runF Q kp lf k g [.d x, .d y] [] = some (.d (.int .i64 i), [])
noncomputable def cfOf (Q : Program) (kp : Cfg) (g : FuncId) (x y : D) : Int := by
  classical exact if h : ∃ i, Cmps Q kp g x y i then h.choose else 0
/-- All that is asked of the function and of the row. -/
structure CmpOn (Q : Program) (kp : Cfg) (g : FuncId) (es : List D) (cf : D → D → Int) : Prop where
  fn : ∃ fn, Q.funcs[g]? = some fn ∧ fn.body.isSome = true ∧ (fn.name == "runtime.NumGoroutine") = false
  ag : ∀ x ∈ es, ∃ cs, x = .agg cs
  len : es.length < 4611686018427387904
  run : ∀ x ∈ es, ∀ y ∈ es, Cmps Q kp g x y (cf x y)
  irr : ∀ x ∈ es, ¬ cf x x < 0
  tr : ∀ x ∈ es, ∀ y ∈ es, ∀ z ∈ es, cf x y < 0 → cf y z < 0 → cf x z < 0
  ntr : ∀ x ∈ es, ∀ y ∈ es, ∀ z ∈ es, ¬ cf x y < 0 → ¬ cf y z < 0 → ¬ cf x z < 0

/-- The element that a number stands for. -/
def el (es : List D) (i : Nat) : D := es.getD (if i < es.length then i else 0) .nils
theorem el_mem {es : List D} (h : 0 < es.length) (i : Nat) : el es i ∈ es := by
  unfold el
  split
  · rename_i hi; rw [List.getD_eq_getElem?_getD, List.getElem?_eq_getElem hi]; exact List.getElem_mem hi
  · rw [List.getD_eq_getElem?_getD, List.getElem?_eq_getElem h]; exact List.getElem_mem h
def sortD (cf : D → D → Int) (es : List D) : List D :=
  if 0 < es.length then (Go.Sort.pdq (Go.Proofs.ltOf fun i j : Nat => cf (el es i) (el es j)) (Array.range es.length) 0 es.length (Lib.bitLen es.length) true true).toList.map (el es) else []

theorem swo_of {kp : Cfg} {g : FuncId} {es : List D} {cf : D → D → Int} (h : CmpOn Q kp g es cf) (h0 : 0 < es.length) : Go.Sort.SWO (Go.Proofs.ltOf fun i j : Nat => cf (el es i) (el es j)) := by
  constructor
  · intro x; exact decide_eq_false (h.irr _ (el_mem h0 x))
  · intro x y z h1 h2; exact decide_eq_true (h.tr _ (el_mem h0 x) _ (el_mem h0 y) _ (el_mem h0 z) (of_decide_eq_true h1) (of_decide_eq_true h2))
  · intro x y z h1 h2; exact decide_eq_false (h.ntr _ (el_mem h0 x) _ (el_mem h0 y) _ (el_mem h0 z) (of_decide_eq_false h1) (of_decide_eq_false h2))

theorem sortD_spec {kp : Cfg} {g : FuncId} {es : List D} {cf : D → D → Int} (h : CmpOn Q kp g es cf) : (sortD cf es).Perm es ∧ (sortD cf es).Pairwise fun a b => ¬ cf b a < 0 := by
  by_cases h0 : 0 < es.length
  · obtain ⟨h1, h2⟩ := Go.Sort.pdq_sorts (Go.Proofs.ltOf fun i j : Nat => cf (el es i) (el es j)) (swo_of h h0) (Array.range es.length) 0 es.length (Lib.bitLen es.length) true true (Nat.zero_le _) (by simp) (Or.inl rfl)
    unfold sortD
    rw [if_pos h0]
    generalize Go.Sort.pdq (Go.Proofs.ltOf fun i j : Nat => cf (el es i) (el es j)) (Array.range es.length) 0 es.length (Lib.bitLen es.length) true true = d at h1 h2
    obtain ⟨p1, _, p3⟩ := h1
    simp only [Array.size_range] at p1
    have e1 : d.extract 0 es.length = d := by rw [← p1]; simp
    have e2 : (Array.range es.length).extract 0 es.length = Array.range es.length := by simp
    rw [e1, e2] at p3
    constructor
    · have := p3.map (el es)
      refine this.trans (List.Perm.of_eq ?_)
      apply List.ext_getElem
      · simp
      · intro i h1 h2
        simp [el, h2]
    · rw [List.pairwise_map, List.pairwise_iff_getElem]
      intro i j hi hj hij
      have := h2 i j (Nat.zero_le _) hij (by simpa [p1] using hj)
      rw [getElem!_pos d i (by simpa using hi), getElem!_pos d j (by simpa using hj)] at this
      simpa [Go.Proofs.ltOf] using this
  · have : es = [] := List.eq_nil_of_length_eq_zero (by omega)
    subst this
    exact ⟨List.Perm.refl _, List.Pairwise.nil⟩

open Classical in
/-- slices.SortFunc, of elements of a type 'ty'. -/
noncomputable def xSort (Q : Program) (kp : Cfg) (ty : TypeId) : TF
  | [.sl n v len, .fn g []], R => match lk R n with
    | some e => (match e.obj with
      | .arr ty' false es => if v = e.ver ∧ ty' = ty ∧ len = es.length ∧ CmpOn Q kp g es (cfOf Q kp g) then some (.tup [], ins n ⟨e.ver, e.tag, .arr ty false (sortD (cfOf Q kp g) es)⟩ R) else none
      | _ => none)
    | none => none
  | _, _ => none

theorem Cmps.one {kp : Cfg} {g : FuncId} {x y : D} {i j : Int} (h : Cmps Q kp g x y i) (h' : Cmps Q kp g x y j) : i = j := by
  obtain ⟨a, b, h1, h2⟩ := (Ev.and h h').some
  rw [h1] at h2
  simpa using h2
theorem cfOf_eq {kp : Cfg} {g : FuncId} {x y : D} {i : Int} (h : Cmps Q kp g x y i) : cfOf Q kp g x y = i := by
  unfold cfOf
  have h' : ∃ i, Cmps Q kp g x y i := ⟨i, h⟩
  rw [dif_pos h']
  exact h'.choose_spec.one h
theorem CmpOn.cf {kp : Cfg} {g : FuncId} {es : List D} {cf : D → D → Int} (h : CmpOn Q kp g es cf) : CmpOn Q kp g es (cfOf Q kp g) := by
  have e : ∀ x ∈ es, ∀ y ∈ es, cfOf Q kp g x y = cf x y := fun x hx y hy => cfOf_eq (h.run x hx y hy)
  refine ⟨h.fn, h.ag, h.len, fun x hx y hy => by rw [e x hx y hy]; exact h.run x hx y hy, fun x hx => by rw [e x hx x hx]; exact h.irr x hx, fun x hx y hy z hz => by rw [e x hx y hy, e y hy z hz, e x hx z hz]; exact h.tr x hx y hy z hz, fun x hx y hy z hz => by rw [e x hx y hy, e y hy z hz, e x hx z hz]; exact h.ntr x hx y hy z hz⟩
/-- What is told of slices.SortFunc. -/
def hSort (Q : Program) (kp : Cfg) (ty : TypeId) : KF1 := fun ps R post => ∃ n g e es cf, ps = [.sl n e.ver es.length, .fn g []] ∧ lk R n = some e ∧ e.obj = .arr ty false es ∧ CmpOn Q kp g es cf ∧
  ∀ es' : List D, es'.Perm es → es'.Pairwise (fun a b => ¬ cf b a < 0) → post (.tup [], ins n ⟨e.ver, e.tag, .arr ty false es'⟩ R)

theorem hSort_told {kp : Cfg} {ty : TypeId} {ps : List P} {R : List (Nat × En)} {post : P × List (Nat × En) → Prop} (h : hSort Q kp ty ps R post) : ∃ x, xSort Q kp ty ps R = some x ∧ post x := by
  obtain ⟨n, g, e, es, cf, rfl, he, heo, hc, hpost⟩ := h
  have hc' := hc.cf
  refine ⟨_, ?_, hpost (sortD (cfOf Q kp g) es) (sortD_spec hc').1 ?_⟩
  · unfold xSort
    simp only [he, heo]
    rw [if_pos ⟨rfl, rfl, rfl, hc'⟩]
  · refine List.Pairwise.imp_of_mem ?_ (sortD_spec hc').2
    intro a b ha hb hab
    have ha' := (sortD_spec hc').1.mem_iff.1 ha
    have hb' := (sortD_spec hc').1.mem_iff.1 hb
    rwa [cfOf_eq (hc.run b hb' a ha')] at hab

/-! ### the worlds -/
theorem grow_of_below {w w' : World} (h : Go.RowKit.Below w.heap.size w w') (hd : w.drawn ≤ w'.drawn) : ∃ q os, w' = Go.Sort.grow (w.drewN q) os := by
  refine ⟨w'.drawn - w.drawn, w'.heap.extract w.heap.size w'.heap.size, ?_⟩
  have e : w'.heap = w.heap ++ w'.heap.extract w.heap.size w'.heap.size := by
    apply Array.ext_getElem?
    intro i
    by_cases hi : i < w.heap.size
    · rw [Array.getElem?_append_left hi]; exact h.block i hi
    · rw [Array.getElem?_append_right (by omega), Array.getElem?_extract]
      simp only [Nat.min_self]
      split
      · congr 1; omega
      · exact Array.getElem?_eq_none (by omega)
  cases w' with
  | mk heap tape drawn os output =>
    have h1 := h.os; have h2 := h.tape; have h3 := h.output
    simp only at h1 h2 h3 e hd
    subst h1 h2 h3
    unfold Go.Sort.grow World.drewN
    simp only
    rw [← e, Nat.add_sub_cancel' hd]

theorem cmp_calls {kp : Cfg} (hm : Q.follows .mixedOrders = true) {g : FuncId} {fn : Func} (hfn : Q.funcs[g]? = some fn) (hbody : fn.body.isSome = true) (hname : (fn.name == "runtime.NumGoroutine") = false)
    {x y : D} {i : Int} (hrun : Cmps Q kp g x y i) {w : World} (hX : CFOK Q w kp.X) {vx vy : Value} (h1 : DRep (· < w.heap.size) w vx x) (h2 : DRep (· < w.heap.size) w vy y) :
    Calls Q g #[vx, vy] w (fun e w' => e = .returned (.int .i64 i) ∧ ∃ q os, w' = Go.Sort.grow (w.drewN q) os) := by
  obtain ⟨lf, k, hrun⟩ := hrun.some
  have hH : HRel Q ⟨fun _ => undef, w⟩ (· < w.heap.size) (fun _ => undef) w [] :=
    ⟨rfl, Nat.zero_le _, fun t p hp => by simp [lk] at hp, fun n e he => by simp [lk] at he, fun n m e e' b he => by simp [lk] at he, fun n e b he => by simp [lk] at he, fun b hb => hb, fun n e i he => by simp [lk] at he, fun b hb => ⟨hb, rfl⟩, Nat.le_refl _⟩
  have hout := runF_ok hX hm k g [.d x, .d y] [] _ _ hrun (· < w.heap.size) (fun _ => undef) w [vx, vy] hH rfl (fun j v c hv hc => by
    match j with
    | 0 => cases hv; cases hc; exact .d h1
    | 1 => cases hv; cases hc; exact .d h2
    | j + 2 => cases hv)
  have hcall : (callFunc g ⟨[vx, vy]⟩).run Q w = .ok (.enter g ⟨[vx, vy]⟩) w := by
    simp [callFunc, hfn]
    rw [if_neg (by simpa using hname)]
    cases hb : fn.body with
    | none => rw [hb] at hbody; cases hbody
    | some c => simp
  rcases hout with ⟨_, h⟩ | ⟨v, w', h, _⟩
  · refine h.mono fun e w' ⟨v, he, F', G', h1, h2, h3⟩ => ?_
    have hv : v = .int .i64 i := PRep.toV (p := .d (.int .i64 i)) h2 rfl
    subst hv
    exact ⟨he, grow_of_below ⟨h3.os, h3.tape, h3.output, h3.size, fun b hb => h3.keep b hb (fun ⟨n, e, he, _⟩ => by simp [lk] at he)⟩ h1.dr⟩
  · rw [hcall] at h
    cases h

open Go.Sort Go.Proofs in
theorem sortWorld_other {enc : Nat → List Value} {k : Nat} {w : World} {b m : Nat} {dk : Array Nat} {os : Array Go.Obj} {c : Nat} (hc : c < w.heap.size) (hne : c ≠ b) : (sortWorldK enc k w b 0 m dk os).heap[c]? = w.heap[c]? := by
  unfold sortWorldK grow
  simp only
  rw [Array.getElem?_append_left (by rw [size_putRowK]; exact hc)]
  unfold putRowK putRow mapBlock
  simp only [Array.getElem?_modify]
  rw [if_neg (Ne.symm hne)]
  rfl
open Go.Sort Go.Proofs in
theorem sortWorld_same {enc : Nat → List Value} {k : Nat} {w : World} {b m : Nat} {dk : Array Nat} {os : Array Go.Obj} {cs : Array Value} {ty : TypeId} (h : w.heap[b]? = some (.cells cs ty (0, 0))) :
    ∃ cs', (sortWorldK enc k w b 0 m dk os).heap[b]? = some (.cells cs' ty (0, 0)) ∧ cs'.size = cs.size := by
  have hb : b < w.heap.size := (Array.getElem?_eq_some_iff.1 h).1
  unfold sortWorldK grow
  simp only
  rw [Array.getElem?_append_left (by rw [size_putRowK]; exact hb)]
  unfold putRowK putRow mapBlock
  simp only [Array.getElem?_modify]
  have h' : (Go.Sort.ahead w m).heap[b]? = some (.cells cs ty (0, 0)) := h
  rw [if_pos trivial, h']
  exact ⟨_, rfl, by simp [putCells]⟩

/-- The cells of the element that a number stands for. -/
def encN (n k : Nat) (cs : Array Value) (i : Nat) : List Value := (List.range k).map fun j => cs.getD ((if i < n then i else 0) * k + j) undef

theorem enc_rep {F F' : Nat → Prop} {w w' : World} {cs : Array Value} {k : Nat} {es : List D} (hE : ERep F w cs k es) (h0 : 0 < es.length) (hF : ∀ c, F c → F' c) (hw : ∀ c, F c → w'.heap[c]? = w.heap[c]?) (ha : ∀ x ∈ es, ∃ cs, x = .agg cs) (i : Nat) :
    DRep F' w' (.agg (encN es.length k cs i).toArray) (el es i) := by
  have hi : (if i < es.length then i else 0) < es.length := by split <;> assumption
  have hx : es[if i < es.length then i else 0]? = some (el es i) := by
    unfold el
    rw [List.getD_eq_getElem?_getD, List.getElem?_eq_getElem hi]
    rfl
  obtain ⟨xs, hxs⟩ := ha _ (el_mem h0 i)
  obtain ⟨q1, q2, q3⟩ := hE _ _ hx
  rw [hxs] at q1 q2 q3 ⊢
  refine .agg _ xs (by simp only [D.cells] at q1; simp [encN, q1]) q2 fun j v c hv hc => ?_
  simp only [D.cells] at q1 q3
  have hj : j < k := by rw [← q1]; exact (List.getElem?_eq_some_iff.1 hc).1
  unfold encN at hv
  rw [List.getElem?_map, List.getElem?_range hj] at hv
  simp only [Option.map_some, Option.some.injEq] at hv
  subst hv
  exact (q3 j c hc).mono hF hw

theorem enc_one {F : Nat → Prop} {w : World} {cs : Array Value} {k : Nat} {es : List D} (hE : ERep F w cs k es) (h0 : 0 < es.length) (i : Nat) : ∀ v ∈ encN es.length k cs i, v.oneCell' = true := by
  intro v hv
  have hi : (if i < es.length then i else 0) < es.length := by split <;> assumption
  obtain ⟨q1, q2, q3⟩ := hE _ _ (List.getElem?_eq_getElem hi)
  unfold encN at hv
  obtain ⟨j, hj, rfl⟩ := List.mem_map.1 hv
  have hj := List.mem_range.1 hj
  have hc := List.getElem?_eq_getElem (l := es[if i < es.length then i else 0].cells) (by rw [q1]; exact hj)
  exact (q3 j _ hc).oneCell (q2 _ (List.mem_of_getElem? hc))

open Go.Sort Go.Proofs Go.Shelf in
set_option maxHeartbeats 1000000 in
theorem xSort_ok {kp : Cfg} (hX : ∀ w, CFOK Q w kp.X) {ρ : Ren} (L : SlLaysF0.n6 Q ρ) {f : FuncId} (hf : f = ρ.f 6) (hfn : ∀ (vs : Array Value) (w : World), (callFunc f vs).run Q w = .ok (.enter f vs) w) {ty : TypeId} {k : Nat} (hk : sz Q ty = some k)
    (aE : ∀ w, (isAgg (ρ.t 24)).run Q w = .ok true w) (zE : ∀ w, (Go.sizeOf (ρ.t 24)).run Q w = .ok k w) (w0 : World) : XOK Q w0 f (xSort Q kp ty) := by
  intro h0 ps R p R1 h F G w vs hH hl hv
  unfold xSort at h
  split at h
  · rename_i n v len g
    split at h
    · rename_i e he
      split at h
      · rename_i ty' es heo
        split at h
        · rename_i hc
          obtain ⟨rfl, rfl, rfl, hc⟩ := hc
          simp only [Option.some.injEq, Prod.mk.injEq] at h
          obtain ⟨rfl, rfl⟩ := h
          match vs, hl, hv with
          | [u0, u1], _, hv =>
            have hp0 := hv 0 u0 _ rfl rfl
            have hp1 := hv 1 u1 _ rfl rfl
            have hO := hH.rg n e he
            rw [heo] at hO
            cases hp0 with
            | sl _ _ _ _ h1 hr =>
              cases hp1 with
              | fn _ ws _ hws _ =>
                have : ws = [] := List.eq_nil_of_length_eq_zero (by simpa using hws)
                subst this
                obtain ⟨a, N, cap, hG, rfl, _⟩ := hr.at he rfl (by rw [heo]; rfl)
                have hnew : NewAt G R n ⟨e.ver, e.tag, .arr ty' false (sortD (cfOf Q kp g) es)⟩ (G n) := fun e1 he1 => by rw [he] at he1; cases he1; exact .inr ⟨rfl, fun _ => ⟨by rw [heo]; rfl, rfl⟩⟩
                have fin : ∀ (w' : World), w.drawn ≤ w'.drawn → (∀ c, c < w.heap.size → ¬ (∃ e', lk R n = some e' ∧ ownB (G n) e'.obj = some c) → w'.heap[c]? = w.heap[c]?) → w.heap.size ≤ w'.heap.size → w'.os = w.os → w'.tape = w.tape → w'.output = w.output →
                    ORep Q F w' G (ins n ⟨e.ver, e.tag, .arr ty' false (sortD (cfOf Q kp g) es)⟩ R) n (.arr ty' false (sortD (cfOf Q kp g) es)) →
                    ∃ F' G', HRel Q ⟨G, w0⟩ F' G' w' (ins n ⟨e.ver, e.tag, .arr ty' false (sortD (cfOf Q kp g) es)⟩ R) ∧ PRep F' w' G' (ins n ⟨e.ver, e.tag, .arr ty' false (sortD (cfOf Q kp g) es)⟩ R) (.tuple #[]) (.tup []) ∧ Ext (Own G R) (Own G' (ins n ⟨e.ver, e.tag, .arr ty' false (sortD (cfOf Q kp g) es)⟩ R)) F F' w w' := by
                  intro w' hd hkeep hsz hos htp hout horep
                  obtain ⟨d1, d2⟩ := SRel.upd hH (e1 := ⟨e.ver, e.tag, .arr ty' false (sortD (cfOf Q kp g) es)⟩) (g1 := G n) (w' := w') (hdr := hd) hnew hkeep hsz hos htp hout
                    (fun c hc => .inr ⟨e, he, by rw [heo]; exact hc⟩) (by rw [upd_self]; exact horep) (fun i hi _ => hH.tag n e i he hi (by rw [heo]; rfl))
                  rw [upd_self] at d1 d2
                  exact ⟨F, G, d1, .tup [] [] rfl (fun i v c hv _ => by simp at hv), d2⟩
                by_cases hn : 0 < es.length
                · obtain ⟨b, cap', cs, k', hG', hh, hk', hk0, hle, hcm, hsz, _, hE⟩ : ∃ b cap cs k, G n = .slice (some ⟨b, 0, none⟩) es.length cap ∧ w.heap[b]? = some (.cells cs ty' (0, 0)) ∧ sz Q ty' = some k ∧ 0 < k ∧ es.length ≤ cap ∧ cap ≤ maxLen ∧ cs.size = cap * k ∧ (false = true → F b) ∧ ERep F w cs k es := by
                    rcases hO with ⟨_, he0⟩ | hO
                    · subst he0; simp at hn
                    · exact hO
                  rw [hk] at hk'
                  cases hk'
                  rw [hG] at hG'
                  cases hG'
                  have hblt : b < w.heap.size := (Array.getElem?_eq_some_iff.1 hh).1
                  have hnF : ¬ F b := hH.fre n e b he (by rw [heo]; simp [ownB, hG, blockOf])
                  have hFne : ∀ c, F c → c ≠ b := fun c hc e' => hnF (e' ▸ hc)
                  obtain ⟨fn, g1, g2, g3⟩ := hc.fn
                  have eg : ∀ args w, (callFunc g args).run Q w = .ok (.enter g args) w := fun args w => enters g1 g2 g3 args w
                  have hcmp : CmpLays Q g #[] (encN es.length k cs) k (fun i j : Nat => cfOf Q kp g (el es i) (el es j)) b 0 (Array.range es.length).size w := by
                    intro m os dk hs x y
                    have hFw : ∀ c, F c → (sortWorldK (encN es.length k cs) k w b 0 m dk os).heap[c]? = w.heap[c]? := fun c hc => sortWorld_other (hH.bnd c hc) (hFne c hc)
                    have hFs : ∀ c, F c → c < (sortWorldK (encN es.length k cs) k w b 0 m dk os).heap.size := fun c hc => Nat.lt_of_lt_of_le (hH.bnd c hc) (size_sortWorldK_c _ _ _ _ _ _ _ _)
                    exact cmp_calls L.mixed g1 g2 g3 (hc.run _ (el_mem hn x) _ (el_mem hn y)) (hX _) (enc_rep hE hn hFs hFw hc.ag x) (enc_rep hE hn hFs hFw hc.ag y)
                  have hHo : HoldsK (encN es.length k cs) k w b 0 (Array.range es.length) := by
                    intro j hj
                    have hj : j < es.length * k := by simpa using hj
                    have hjk : j / k < es.length := Nat.div_lt_of_lt_mul (by rw [Nat.mul_comm]; exact hj)
                    have hjm : j % k < k := Nat.mod_lt _ hk0
                    have hjs : j < cs.size := by rw [hsz]; exact Nat.lt_of_lt_of_le hj (Nat.mul_le_mul_right k hle)
                    refine ⟨?_, by simp [World.frozen?, hh]⟩
                    rw [cell_of_cells hh, get_flatK _ _ _ _ (by simpa using hj)]
                    rw [getElem!_pos (Array.range es.length) (j / k) (by simpa using hjk), Array.getElem_range]
                    unfold encN
                    rw [getElem!_pos _ (j % k) (by simpa using hjm)]
                    simp only [List.getElem_map, List.getElem_range, if_pos hjk, id]
                    rw [Nat.zero_add, Nat.mul_comm, Nat.div_add_mod]
                    exact get_getD hjs
                  have hcall := AnyQ.slices_SortFunc_eq L k aE zE (encN es.length k cs) (fun x => by simp [encN]) (enc_one hE hn) (fun i j : Nat => cfOf Q kp g (el es i) (el es j)) (swo_of hc hn) g #[] b 0 cap (Array.range es.length) w eg hcmp hHo hblt (by simp only [Array.size_range]; exact hc.len)
                  obtain ⟨s1, _⟩ := pdq_sorts (Go.Proofs.ltOf fun i j : Nat => cfOf Q kp g (el es i) (el es j)) (swo_of hc hn) (Array.range es.length) 0 es.length (Lib.bitLen es.length) true true (Nat.zero_le _) (by simp) (Or.inl rfl)
                  simp only [Array.size_range] at hcall
                  have hsD : sortD (cfOf Q kp g) es = (pdq (Go.Proofs.ltOf fun i j : Nat => cfOf Q kp g (el es i) (el es j)) (Array.range es.length) 0 es.length (Lib.bitLen es.length) true true).toList.map (el es) := by unfold sortD; rw [if_pos hn]
                  generalize pdq (Go.Proofs.ltOf fun i j : Nat => cfOf Q kp g (el es i) (el es j)) (Array.range es.length) 0 es.length (Lib.bitLen es.length) true true = dk at hcall s1 hsD
                  obtain ⟨p1, _, _⟩ := s1
                  simp only [Array.size_range] at p1
                  refine .inl ⟨hfn _ w, ?_⟩
                  rw [hf]
                  refine hcall.mono fun e' w' ⟨he', n', os, hw'⟩ => ⟨_, he', ?_⟩
                  subst hw'
                  have hlenD : (sortD (cfOf Q kp g) es).length = es.length := by rw [hsD]; simp [p1]
                  have hFw : ∀ c, F c → (sortWorldK (encN es.length k cs) k w b 0 n' dk os).heap[c]? = w.heap[c]? := fun c hc => sortWorld_other (hH.bnd c hc) (hFne c hc)
                  refine fin _ (by unfold sortWorldK grow putRowK putRow mapBlock Go.Sort.ahead; exact Nat.le_add_right _ _) (fun c hc hno => sortWorld_other hc (fun e' => hno ⟨e, he, by rw [e', heo]; simp [ownB, hG, blockOf]⟩)) (size_sortWorldK_c _ _ _ _ _ _ _ _) rfl rfl rfl ?_
                  obtain ⟨cs', hh', hs'⟩ := sortWorld_same (enc := encN es.length k cs) (k := k) (m := n') (dk := dk) (os := os) hh
                  refine .inr ⟨b, cap, cs', k, by rw [hlenD]; exact hG, hh', hk, hk0, by rw [hlenD]; exact hle, hcm, by rw [hs']; exact hsz, (fun h => by cases h), ?_⟩
                  have hHo' := holdsK_sortWorldK_c (encN es.length k cs) k w b 0 (Array.range es.length) dk n' os hHo hblt (by simp [p1])
                  intro i x hx
                  rw [hsD, List.getElem?_map] at hx
                  have hid : i < dk.size := by
                    by_cases hid : i < dk.size
                    · exact hid
                    · rw [List.getElem?_eq_none (by simpa using hid)] at hx; cases hx
                  have hdi : dk.toList[i]? = some dk[i]! := by rw [Array.getElem?_toList, Array.getElem?_eq_getElem hid, getElem!_pos dk i hid]
                  rw [hdi] at hx
                  simp only [Option.map_some, Option.some.injEq] at hx
                  subst hx
                  have hii : (if dk[i]! < es.length then dk[i]! else 0) < es.length := by split <;> assumption
                  obtain ⟨q1, q2, q3⟩ := hE _ _ (show es[if dk[i]! < es.length then dk[i]! else 0]? = some (el es dk[i]!) by unfold el; rw [List.getD_eq_getElem?_getD, List.getElem?_eq_getElem hii]; rfl)
                  refine ⟨q1, q2, fun j c hjc => ?_⟩
                  have hj : j < k := by rw [← q1]; exact (List.getElem?_eq_some_iff.1 hjc).1
                  have := (HoldsK.cell hHo' hid hj).1
                  rw [cell_of_cells hh'] at this
                  unfold encN at this
                  rw [getElem!_pos _ j (by simpa using hj)] at this
                  simp only [List.getElem_map, List.getElem_range] at this
                  rw [Nat.zero_add] at this
                  rw [Array.getD_eq_getD_getElem?, this]
                  exact (q3 j c hjc).mono (fun _ h => h) hFw
                · have he0 : es = [] := List.eq_nil_of_length_eq_zero (by omega)
                  subst he0
                  refine .inl ⟨hfn _ w, ?_⟩
                  rw [hf]
                  refine (AnyF.slices_SortFunc_none L a cap (.func (.func g) #[] ⟨[]⟩) w).mono fun e' w' ⟨he', hw'⟩ => ⟨_, he', ?_⟩
                  subst hw'
                  refine fin w' (Nat.le_refl _) (fun c hc _ => rfl) (Nat.le_refl _) rfl rfl rfl ?_
                  have hsD : sortD (cfOf Q kp g) [] = [] := rfl
                  rw [hsD]
                  rcases hO with ⟨hg, _⟩ | ⟨b, cap', cs, k', hG', hh, hk', hk0, hle, hcm, hsz, h7, hE⟩
                  · exact .inl ⟨hg, rfl⟩
                  · exact .inr ⟨b, cap', cs, k', hG', hh, hk', hk0, hle, hcm, hsz, h7, hE⟩
        · cases h
      · cases h
    · cases h
  · cases h
end
end Pi

