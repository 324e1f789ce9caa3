/- Stamp's seat: the library's functions that are told. -/
import Derived.Test.YtgkbhgcgnjdnnaaDoorPiX
import Derived.Test.YtgkbhgcgnjdnnaaDoorPiLem
import Derived.Test.YtgkbhgcgnjdnnaaDoorStShelf
import Derived.KernelRfl
namespace Pi
open Go Go.Proofs Go.RowKit

/-- What strconv.Atoi's number is. -/
def atoiV (l : List UInt8) : Int := match Lib.atoiAll l with | .ok v => v | .range => Lib.atoiSat l | _ => 0

def xSplit (s sep : List UInt8) : Option (P × List (Nat × En)) :=
  if s.length < 4294967281 ∧ 1 ≤ sep.length ∧ (Lib.split s sep).length = Lib.count s sep + 1 ∧ Lib.count s sep ≤ 4294967281 then some (.sl 0 0 (Lib.split s sep).length, [(0, ⟨0, none, .arr 9 false ((Lib.split s sep).map D.str)⟩)]) else none
def xAtoi (s : List UInt8) : Option (P × List (Nat × En)) := if s.length ≤ 281474976710656 then some (.tup [.d (.int .i64 (atoiV s)), .bad], []) else none
def xItoa (n : Int) : Option (P × List (Nat × En)) := if -9223372036854775808 ≤ n ∧ n ≤ 9223372036854775807 then some (.d (.str (Lib.itoa n)), []) else none
def xsT : List Nat := [38, 39, 41]
def xT : CF := fun f ps R => match R with
  | _ :: _ => none
  | [] => match ps with
    | [.d (.str s), .d (.str sep)] => if Nat.beq f 38 then xSplit s sep else none
    | [.d (.str s)] => if Nat.beq f 39 then xAtoi s else none
    | [.d (.int .i64 n)] => if Nat.beq f 41 then xItoa n else none
    | _ => none

/-- What is asked of the world in which all begins. -/
structure StW (w0 : World) : Prop where
  m : ∃ m, w0.cell? ⟨2, 0, none⟩ = some (.int .i64 m)
  e0 : ∃ ev, w0.cell? ⟨0, 0, none⟩ = some ev ∧ (ev = .nilIface ∨ ∃ te pe, ev = .iface te pe)
  e1 : ∃ ev, w0.cell? ⟨1, 0, none⟩ = some ev ∧ (ev = .nilIface ∨ ∃ te pe, ev = .iface te pe)
  tab : ∀ w : World, (∀ b, b < w0.heap.size → w.heap[b]? = w0.heap[b]?) → Lib.TabIs Tryd.prog w "internal/strconv.uint64pow10" .u64 Lib.pow10Tab

theorem cell_keep {w0 w : World} {v : Value} {b : Nat} (hz : ∀ b, b < w0.heap.size → w.heap[b]? = w0.heap[b]?) (h : w0.cell? ⟨b, 0, none⟩ = some v) : w.cell? ⟨b, 0, none⟩ = some v := by
  by_cases hb : b < w0.heap.size
  · unfold World.cell? at h ⊢
    rw [hz b hb]
    exact h
  · unfold World.cell? at h
    rw [show w0.heap[({ block := b, off := 0, spot := none } : Addr).block]? = none from Array.getElem?_eq_none (by show w0.heap.size ≤ b; omega)] at h
    simp at h

theorem enters {Q : Program} {f : FuncId} {fn : Func} (hfn : Q.funcs[f]? = some fn) (hbody : fn.body.isSome = true) (hname : (fn.name == "runtime.NumGoroutine") = false) (vs : Array Value) (w : World) : (callFunc f vs).run Q w = .ok (.enter f vs) w := by
  simp [callFunc, hfn]
  rw [if_neg (by simpa using hname)]
  cases hb : fn.body with
  | none => rw [hb] at hbody; cases hbody
  | some c => simp

theorem below_grow (w : World) (k : Nat) (os : Array Go.Obj) : Below w.heap.size w (Go.Sort.grow (w.drewN k) os) :=
  ⟨rfl, rfl, rfl, by simp [Go.Sort.grow, World.drewN], fun b hb => by
    have hb' : b < (w.drewN k).heap.size := hb
    simp only [Go.Sort.grow]
    rw [Array.getElem?_append_left hb']
    rfl⟩
theorem below_bytes (w : World) (e : TypeId) (t : ByteArray) : Below w.heap.size w (Lib.bytesWorld w e t) := by
  unfold Lib.bytesWorld
  have h1 : Below w.heap.size w (w.drew.alloc (.cells (Lib.bytesCells w e t) e)) := (Below.refl w.heap.size w).drew.alloc (by exact Nat.le_refl _) _
  refine h1.trans ⟨rfl, rfl, rfl, ?_, fun b hb => ?_⟩
  · simp [World.freeze]
  · simp only [World.freeze]
    rw [if_neg (by omega)]
    simp only [Array.getElem?_modify]
    rw [if_neg (by omega)]

theorem xT_ok {w0 : World} (hw : StW w0) : CFOK Tryd.prog w0 xT := by
  intro fid ps R p R1 h F G w vs hH hl hv
  have hz : ∀ b, b < w0.heap.size → w.heap[b]? = w0.heap[b]? := fun b hb => (hH.z b hb).2
  unfold xT at h
  split at h
  · cases h
  · split at h
    · rename_i s sep
      split at h
      · rename_i hf
        have hf := Nat.eq_of_beq_eq_true hf
        subst hf
        unfold xSplit at h
        split at h
        · rename_i hc
          obtain ⟨h1, h2, h3, h4⟩ := hc
          simp only [Option.some.injEq, Prod.mk.injEq] at h
          obtain ⟨rfl, rfl⟩ := h
          match vs, hl, hv with
          | [v, u], _, hv =>
            have e1 : v = .string ⟨⟨s⟩⟩ := PRep.toV (p := .d (.str s)) (hv 0 v _ rfl rfl) rfl
            have e2 : u = .string ⟨⟨sep⟩⟩ := PRep.toV (p := .d (.str sep)) (hv 1 u _ rfl rfl) rfl
            subst e1
            subst e2
            obtain ⟨m, hm⟩ := hw.m
            have hdata : (Lib.splitB ⟨⟨sep⟩⟩ 0 (Lib.countB ⟨⟨s⟩⟩ ⟨⟨sep⟩⟩) ⟨⟨s⟩⟩).map (·.data.toList) = Lib.split s sep := Lib.splitB_data _ _ _ _
            have hlen : (Lib.splitB ⟨⟨sep⟩⟩ 0 (Lib.countB ⟨⟨s⟩⟩ ⟨⟨sep⟩⟩) ⟨⟨s⟩⟩).length = (Lib.split s sep).length := by rw [← hdata, List.length_map]
            have hcnt : Lib.countB ⟨⟨s⟩⟩ ⟨⟨sep⟩⟩ = Lib.count s sep := rfl
            have := out_row (es := (Lib.split s sep).map D.str) (k := 0) (ty := 9) hH (enters Tryd.func38 (by kernel_rfl) (by kernel_rfl) _ w) (by kernel_rfl) (vs := [.string ⟨⟨s⟩⟩, .string ⟨⟨sep⟩⟩])
              ((Tryd.strings_Split ⟨⟨s⟩⟩ ⟨⟨sep⟩⟩ m w (by simpa [ByteArray.size] using h1) (cell_keep hz hm) (by simpa [ByteArray.size] using h2)).mono fun e w' ⟨he, hw'⟩ => by
                subst hw'
                refine ⟨(Below.refl _ _).alloc (Nat.le_refl _) _, w.heap.size, Lib.count s sep + 1, _, ?_, Nat.le_refl _, heap_alloc_new w _, ?_, ?_, ?_, fun F => ?_⟩
                · rw [he, hcnt, List.length_map, h3]
                · rw [List.length_map, h3]; exact Nat.le_refl _
                · simp only [maxLen]; omega
                · simp [hlen, h3]
                · intro i x hx
                  rw [List.getElem?_map] at hx
                  cases hi : (Lib.split s sep)[i]? with
                  | none => rw [hi] at hx; cases hx
                  | some l =>
                    rw [hi] at hx
                    cases hx
                    refine ⟨rfl, by simp [D.cells, D.isCell], fun j c hc => ?_⟩
                    cases j with
                    | succ j => simp [D.cells] at hc
                    | zero =>
                      simp [D.cells] at hc
                      subst hc
                      rw [← hdata, List.getElem?_map] at hi
                      cases hb : (Lib.splitB ⟨⟨sep⟩⟩ 0 (Lib.countB ⟨⟨s⟩⟩ ⟨⟨sep⟩⟩) ⟨⟨s⟩⟩)[i]? with
                      | none => rw [hb] at hi; cases hi
                      | some bb =>
                        rw [hb] at hi
                        simp at hi
                        subst hi
                        simp [Array.getD_eq_getD_getElem?, hb]
                        exact .str bb.data.toList)
            rw [List.length_map] at this
            exact this
        · cases h
      · cases h
    · rename_i s
      split at h
      · rename_i hf
        have hf := Nat.eq_of_beq_eq_true hf
        subst hf
        unfold xAtoi at h
        split at h
        · rename_i hlen
          simp only [Option.some.injEq, Prod.mk.injEq] at h
          obtain ⟨rfl, rfl⟩ := h
          match vs, hl, hv with
          | [v], _, hv =>
            have hp := hv 0 v _ rfl rfl
            have e : v = .string ⟨⟨s⟩⟩ := PRep.toV (p := .d (.str s)) hp rfl
            subst e
            refine out_plain hH (enters Tryd.func39 (by kernel_rfl) (by kernel_rfl) _ w) ?_
            have two : ∀ (n : Int) (u : Value) (F : Nat → Prop) (G : Nat → Value) (w' : World), PRep F w' G [] (.tuple #[.int .i64 n, u]) (.tup [.d (.int .i64 n), .bad]) := fun n u F G w' =>
              .tup [.int .i64 n, u] _ rfl (fun i v c hv hc => by
                match i with
                | 0 => simp at hv hc; subst hv; subst hc; exact .d (.int .i64 n)
                | 1 => simp at hv hc; subst hc; exact .bad _
                | i + 2 => simp at hv)
            cases ha : Lib.atoiAll s with
            | ok n =>
              have hav : atoiV s = n := by simp [atoiV, ha]
              refine (Tryd.strconv_Atoi_ok ⟨⟨s⟩⟩ (by simp [ByteArray.size]; omega) n ha w).mono fun e w' ⟨he, hw'⟩ => ⟨_, he, ?_, fun F G => by rw [hav]; exact two _ _ _ _ _⟩
              rcases hw' with rfl | ⟨t, rfl⟩
              · exact Below.refl _ _
              · exact below_bytes _ _ _
            | range =>
              have hav : atoiV s = Lib.atoiSat s := by simp [atoiV, ha]
              obtain ⟨ev, h1, h2⟩ := hw.e1
              exact (Tryd.strconv_Atoi_range ⟨⟨s⟩⟩ (by simpa [ByteArray.size] using hlen) ha ev w (cell_keep hz h1) h2).mono fun e w' ⟨N, he, _, _, hb⟩ => ⟨_, he, hb, fun F G => by rw [hav]; exact two _ _ _ _ _⟩
            | _ =>
              have hav : atoiV s = 0 := by simp [atoiV, ha]
              obtain ⟨ev, h1, h2⟩ := hw.e0
              exact (Tryd.strconv_Atoi_syntax ⟨⟨s⟩⟩ (by simpa [ByteArray.size] using hlen) ⟨fun v e => (by rw [ha] at e; cases e), fun e => (by rw [ha] at e; cases e)⟩ ev w (cell_keep hz h1) h2).mono fun e w' ⟨N, he, _, _, hb⟩ => ⟨_, he, hb, fun F G => by rw [hav]; exact two _ _ _ _ _⟩
        · cases h
      · cases h
    · rename_i n
      split at h
      · rename_i hf
        have hf := Nat.eq_of_beq_eq_true hf
        subst hf
        unfold xItoa at h
        split at h
        · rename_i hn
          simp only [Option.some.injEq, Prod.mk.injEq] at h
          obtain ⟨rfl, rfl⟩ := h
          match vs, hl, hv with
          | [v], _, hv =>
            have hp := hv 0 v _ rfl rfl
            have e : v = .int .i64 n := PRep.toV (p := .d (.int .i64 n)) hp rfl
            subst e
            refine out_plain hH (enters Tryd.func41 (by kernel_rfl) (by kernel_rfl) _ w) ?_
            exact (Tryd.strconv_Itoa n hn.1 hn.2 w (hw.tab w hz)).mono fun e w' ⟨he, k, os, hw'⟩ => ⟨_, he, by rw [hw']; exact below_grow _ _ _, fun F G => .d (.str _)⟩
        · cases h
      · cases h
    · cases h
end Pi
