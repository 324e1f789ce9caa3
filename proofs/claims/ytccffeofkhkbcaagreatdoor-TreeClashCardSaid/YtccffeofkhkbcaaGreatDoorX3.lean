/- The text X3. -/
import Derived.Test.YtccffeofkhkbcaaGreatDoorPiSort
import Derived.KernelRfl
/- The seat's told functions of the library. -/
namespace Pi
open Go Go.Proofs Go.RowKit

/-- What strconv.Atoi's number is. -/
def atoiV (l : List UInt8) : Int := match Lib.atoiAll l with | .ok v => v | .range => Lib.atoiSat l | _ => 0

def xSplit : TF
  | [.d (.str s), .d (.str sep)], [] => if s.length < 4294967281 ∧ 1 ≤ sep.length ∧ (Lib.split s sep).length = Lib.count s sep + 1 ∧ Lib.count s sep ≤ 4294967281 then some (.sl 0 0 (Lib.split s sep).length, [(0, ⟨0, none, .arr 9 false ((Lib.split s sep).map D.str)⟩)]) else none
  | _, _ => none
def xAtoi : TF
  | [.d (.str s)], [] => if s.length ≤ 281474976710656 then some (.tup [.d (.int .i64 (atoiV s)), .bad], []) else none
  | _, _ => none
def xItoa : TF
  | [.d (.int .i64 n)], [] => if -9223372036854775808 ≤ n ∧ n ≤ 9223372036854775807 then some (.d (.str (Lib.itoa n)), []) else none
  | _, _ => none
def xTrim : TF
  | [.d (.str s), .d (.str c)], [] => if s.length ≤ 9223372036854775807 ∧ c.length < 4294967281 ∧ c.all (fun b => decide (b.toNat < 128)) = true then some (.d (.str (Lib.trimS s c)), []) else none
  | _, _ => none
def xContains : TF
  | [.d (.str s), .d (.str [c])], [] => some (.d (.bool (decide (0 ≤ Lib.indexByte s c))), [])
  | _, _ => none
def xCut : TF
  | [.d (.str s), .d (.str c)], [] => if s.length < 4294967281 then some (.tup [.d (.str (Lib.cut s c).1), .d (.str (Lib.cut s c).2.1), .d (.bool (Lib.cut s c).2.2)], []) else none
  | _, _ => none
def xCutPrefix : TF
  | [.d (.str s), .d (.str c)], [] => some (.tup [.d (.str (Lib.trimPrefix s c)), .d (.bool (Lib.hasPrefix s c))], [])
  | _, _ => none
def strsOf : List D → Option (List (List UInt8))
  | [] => some []
  | .str s :: r => match strsOf r with | some l => some (s :: l) | none => none
  | _ => none
def xJoin : TF
  | [.d (.sl 1 es), .d (.str c)], [] => match strsOf es with
    | some l => if l.length ≤ 140737488355328 ∧ (Lib.join l c).length ≤ 140737488355328 then some (.d (.str (Lib.join l c)), []) else none
    | none => none
  | _, _ => none
def xLastIndex : TF
  | [.d (.str s), .d (.str c)], [] => if s.length < 4611686018427387904 then some (.d (.int .i64 (Lib.lastIndex s c)), []) else none
  | _, _ => none
def xValid : TF
  | [.d (.str s)], [] => if s.length ≤ 9223372036854775807 then some (.d (.bool (Lib.validD s)), []) else none
  | _, _ => none
def xCount : TF
  | [.d (.str s)], [] => if s.length < 9223372036854775807 then some (.d (.int .i64 (Lib.runeCount ⟨⟨s⟩⟩)), []) else none
  | _, _ => none
noncomputable def xSortItem : TF := xSort Tryz.prog kp0 43
noncomputable def xSortId : TF := xSort Tryz.prog kp0 41
noncomputable def xL : List (Nat × TF) := [(95, xItoa), (66, xTrim), (70, xJoin), (123, xCheck), (98, xStr), (30, xSortItem), (67, xSortId), (39, xContains)]
noncomputable def xB : CF := xOf xL

theorem cell_keep' {w0 w : World} {v : Value} {b o : Nat} (hz : ∀ b, b < w0.heap.size → w.heap[b]? = w0.heap[b]?) (h : w0.cell? ⟨b, o, none⟩ = some v) : w.cell? ⟨b, o, none⟩ = some v := by
  by_cases hb : b < w0.heap.size
  · unfold World.cell? at h ⊢
    rw [hz b hb]
    exact h
  · unfold World.cell? at h
    rw [show w0.heap[({ block := b, off := o, spot := none } : Addr).block]? = none from Array.getElem?_eq_none (by show w0.heap.size ≤ b; omega)] at h
    simp at h
/-- What is asked of the world in which all begins. -/
structure StW (w0 : World) : Prop where
  m : ∃ m, w0.cell? ⟨0, 0, none⟩ = some (.int .i64 m)
  tab : ∀ w : World, (∀ b, b < w0.heap.size → w.heap[b]? = w0.heap[b]?) → Lib.TabIs Tryz.prog w "internal/strconv.uint64pow10" .u64 Lib.pow10Tab
  u8 : Lib.Utf8Tabs 1 2 w0

theorem StW.zero {w0 : World} (h : StW w0) : StW { w0 with drawn := 0 } where
  m := h.m -- 0
  tab := h.tab -- 
  u8 := h.u8 -- 1 2

theorem utf8_keep {w0 w : World} {a b : Nat} (hz : ∀ b, b < w0.heap.size → w.heap[b]? = w0.heap[b]?) (h : Lib.Utf8Tabs a b w0) : Lib.Utf8Tabs a b w :=
  ⟨fun c hc => cell_keep' hz (h.1 c hc), fun i hi => ⟨cell_keep' hz (h.2 i hi).1, cell_keep' hz (h.2 i hi).2⟩⟩

theorem below_grow (w : World) (k : Nat) (os : Array Go.Obj) : Below w.heap.size w (Go.Sort.grow (w.drewN k) os) :=
  ⟨rfl, rfl, rfl, by simp [Go.Sort.grow, World.drewN], fun b hb => by
    have hb' : b < (w.drewN k).heap.size := hb
    simp only [Go.Sort.grow]
    rw [Array.getElem?_append_left hb']
    rfl⟩
theorem below_drewN (w : World) (k : Nat) : Below w.heap.size w (w.drewN k) := ⟨rfl, rfl, rfl, by simp [World.drewN], fun b hb => by simp [World.drewN]⟩
theorem below_bytes (w : World) (e : TypeId) (t : ByteArray) : Below w.heap.size w (Lib.bytesWorld w e t) := by
  unfold Lib.bytesWorld
  have h1 : Below w.heap.size w (w.drew.alloc (.cells (Lib.bytesCells w e t) e)) := (Below.refl w.heap.size w).drew.alloc (by exact Nat.le_refl _) _
  refine h1.trans ⟨rfl, rfl, rfl, ?_, fun b hb => ?_⟩
  · simp [World.freeze]
  · simp only [World.freeze]
    rw [if_neg (by omega)]
    simp only [Array.getElem?_modify]
    rw [if_neg (by omega)]
section
variable {w0 : World}
theorem strArg {F : Nat → Prop} {w : World} {G : Nat → Value} {R : List (Nat × En)} {v : Value} {s : List UInt8} (h : PRep F w G R v (.d (.str s))) : v = .string ⟨⟨s⟩⟩ := PRep.toV (p := .d (.str s)) h rfl

theorem xItoa_ok (hw : StW w0) : XOK Tryz.prog w0 95 xItoa := by
  intro h0 ps R p R1 h F G w vs hH hl hv
  have hz : ∀ b, b < w0.heap.size → w.heap[b]? = w0.heap[b]? := fun b hb => (hH.z b hb).2
  unfold xItoa at h
  split at h
  · rename_i n
    split at h
    · rename_i hn
      simp only [Option.some.injEq, Prod.mk.injEq] at h
      obtain ⟨rfl, rfl⟩ := h
      match vs, hl, hv with
      | [v], _, hv =>
        have hp := hv 0 v _ rfl rfl
        have e : v = .int .i64 n := PRep.toV (p := .d (.int .i64 n)) hp rfl
        subst e
        refine out_plain h0 hH (enters Tryz.func95 (by kernel_rfl) (by kernel_rfl) _ w) ?_
        exact (Tryz.strconv_Itoa n hn.1 hn.2 w (hw.tab w hz)).mono fun e w' ⟨he, k, os, hw'⟩ => ⟨_, he, by rw [hw']; exact below_grow _ _ _, fun F G => .d (.str _)⟩
    · cases h
  · cases h
theorem xTrim_ok : XOK Tryz.prog w0 66 xTrim := by
  intro h0 ps R p R1 h F G w vs hH hl hv
  unfold xTrim at h
  split at h
  · rename_i s c
    split at h
    · rename_i hc
      simp only [Option.some.injEq, Prod.mk.injEq] at h
      obtain ⟨rfl, rfl⟩ := h
      match vs, hl, hv with
      | [v, u], _, hv =>
        have e1 : v = .string ⟨⟨s⟩⟩ := strArg (hv 0 v _ rfl rfl)
        have e2 : u = .string ⟨⟨c⟩⟩ := strArg (hv 1 u _ rfl rfl)
        subst e1
        subst e2
        refine out_plain h0 hH (enters Tryz.func66 (by kernel_rfl) (by kernel_rfl) _ w) ?_
        exact (Go.Proofs.Any.strings_Trim_laid Tryz.lays160 (by kernel_rfl) ⟨⟨s⟩⟩ ⟨⟨c⟩⟩ w (by simpa [ByteArray.size] using hc.1) (by simpa [ByteArray.size] using hc.2.1) (Go.Proofs.ascii_of_all hc.2.2)).mono fun e w' ⟨he, hb⟩ => ⟨_, he, hb, fun F G => .d (.str _)⟩
    · cases h
  · cases h
theorem xContains_ok : XOK Tryz.prog w0 39 xContains := by
  intro h0 ps R p R1 h F G w vs hH hl hv
  unfold xContains at h
  split at h
  · rename_i s c
    simp only [Option.some.injEq, Prod.mk.injEq] at h
    obtain ⟨rfl, rfl⟩ := h
    match vs, hl, hv with
    | [v, u], _, hv =>
      have e1 : v = .string ⟨⟨s⟩⟩ := strArg (hv 0 v _ rfl rfl)
      have e2 : u = .string ⟨⟨[c]⟩⟩ := strArg (hv 1 u _ rfl rfl)
      subst e1
      subst e2
      refine out_plain h0 hH (enters Tryz.func39 (by kernel_rfl) (by kernel_rfl) _ w) ?_
      exact (Tryz.strings_Contains_one ⟨⟨s⟩⟩ c w).mono fun e w' ⟨he, hb⟩ => ⟨_, he, by rw [hb]; exact Below.refl _ _, fun F G => .d (.bool _)⟩
  · cases h
theorem strsOf_spec : ∀ (es : List D) (l : List (List UInt8)), strsOf es = some l → es = l.map D.str
  | [], l, h => by simp [strsOf] at h; subst h; rfl
  | x :: es, l, h => by
    cases x <;> try (simp [strsOf] at h; done)
    rename_i s
    simp only [strsOf] at h
    split at h
    · rename_i l' hl
      simp at h
      subst h
      rw [strsOf_spec es l' hl]
      rfl
    · cases h
theorem xJoin_ok : XOK Tryz.prog w0 70 xJoin := by
  intro h0 ps R p R1 h F G w vs hH hl hv
  unfold xJoin at h
  split at h
  · rename_i es c
    split at h
    · rename_i l hes
      have hes := strsOf_spec es l hes
      subst hes
      split at h
      · rename_i hc
        simp only [Option.some.injEq, Prod.mk.injEq] at h
        obtain ⟨rfl, rfl⟩ := h
        match vs, hl, hv with
        | [v, u], _, hv =>
          have h1 := hv 0 v _ rfl rfl
          have e2 : u = .string ⟨⟨c⟩⟩ := strArg (hv 1 u _ rfl rfl)
          subst e2
          refine out_plain h0 hH (enters Tryz.func70 (by kernel_rfl) (by kernel_rfl) _ w) ?_
          cases h1 with
          | d h1 =>
            generalize hes : l.map D.str = es at h1
            cases h1 with
            | slE a k cap =>
              have : l = [] := by simpa using hes
              subst this
              exact (Tryz.strings_Join_none a cap ⟨⟨c⟩⟩ w).mono fun e w' ⟨he, hb⟩ => ⟨_, he, hb ▸ Below.refl _ _, fun F G => .d (.str _)⟩
            | slN b off k cap es f hcap hb hk hcell hw hr =>
              subst hes
              have hj := Tryz.strings_Join b off cap (l.map fun x => ⟨⟨x⟩⟩) ⟨⟨c⟩⟩ w (fun j x hx => by
                rw [List.getElem?_map] at hx
                cases hi : l[j]? with
                | none => rw [hi] at hx; cases hx
                | some s =>
                  rw [hi] at hx
                  cases hx
                  have hjl : j < l.length := (List.getElem?_eq_some_iff.1 hi).1
                  rw [hw j (by simpa using hjl)]
                  have := hr j 0 (.str s) (.str s) (by rw [List.getElem?_map, hi]; rfl) rfl
                  simp only [Nat.mul_one, Nat.add_zero] at this
                  rw [this.toVc rfl]) (hH.bnd b hb) (by simpa using hc.1) (by simpa using hcap) (by simpa [Function.comp_def] using hc.2)
              simp only [List.length_map] at hj ⊢
              have e : (List.map (fun x => x.data.toList) (List.map (fun x => (⟨⟨x⟩⟩ : ByteArray)) l)) = l := by simp [Function.comp_def]
              rw [e] at hj
              exact hj.mono fun e w' ⟨he, hb⟩ => ⟨_, he, hb, fun F G => .d (.str _)⟩
      · cases h
    · cases h
  · cases h
set_option maxRecDepth 100000 in
theorem xSortItem_ok (w0 : World) : XOK Tryz.prog w0 30 xSortItem :=
  xSort_ok (kp := kp0) (fun w => noX_ok _ w) Tryz.sort30 (by kernel_rfl) (fun vs w => enters Tryz.func30 (by kernel_rfl) (by kernel_rfl) vs w) (ty := 43) (k := 6) (by kernel_rfl) (fun w => run_isAgg (d := _) (show Tryz.prog.underlying (Tryz.sort30_ren.t 24) = some _ from Tryz.underlying43) w) (run_sizeOf (by kernel_rfl)) w0
set_option maxRecDepth 100000 in
theorem xSortId_ok (w0 : World) : XOK Tryz.prog w0 67 xSortId :=
  xSort_ok (kp := kp0) (fun w => noX_ok _ w) Tryz.sort67 (by kernel_rfl) (fun vs w => enters Tryz.func67 (by kernel_rfl) (by kernel_rfl) vs w) (ty := 41) (k := 3) (by kernel_rfl) (fun w => run_isAgg (d := _) (show Tryz.prog.underlying (Tryz.sort67_ren.t 24) = some _ from Tryz.underlying41) w) (run_sizeOf (by kernel_rfl)) w0
theorem xB_ok {w1 : World} (hw1 : StW w1) : CFOK Tryz.prog { w1 with drawn := 0 } xB := by
  have hw := hw1.zero
  exact XAll.ok rfl (.cons (xItoa_ok hw) (.cons xTrim_ok (.cons xJoin_ok (.cons xCheck_ok (.cons xStr_ok (.cons (xSortItem_ok _) (.cons (xSortId_ok _) (.cons xContains_ok .nil))))))))
end
end Pi

