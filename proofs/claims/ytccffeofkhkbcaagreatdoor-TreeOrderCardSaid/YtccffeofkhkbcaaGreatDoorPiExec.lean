/- The text PiExec. -/
import Derived.Test.YtccffeofkhkbcaaGreatDoorPiIter
import Derived.Laws.BytesArg
namespace Pi
open Go

section
variable {Q : Program} {T : Tg} {F : Nat → Prop} {G : Nat → Value} {w : World} {a : Act} {s : S}

theorem bytesD_spec : ∀ (es : List D) (l : List UInt8), bytesD es = some l → ∃ ns : List Int, es = ns.map (D.int .u8) ∧ l = ns.map fun n => UInt8.ofNat n.toNat
  | [], l, h => by simp [bytesD] at h; subst h; exact ⟨[], rfl, rfl⟩
  | x :: es, l, h => by
    cases x <;> try (simp [bytesD] at h; done)
    rename_i k n
    cases k <;> try (simp [bytesD] at h; done)
    simp only [bytesD] at h
    cases hb : bytesD es with
    | none => simp [hb] at h
    | some l' =>
      simp [hb] at h
      subst h
      obtain ⟨ns, rfl, rfl⟩ := bytesD_spec es l' hb
      exact ⟨n :: ns, rfl, rfl⟩

theorem frep_ints {ns : List Int} {xs : List Value} (h : FRep F w 1 (ns.map (D.int .u8)) xs) : xs = ns.map (Value.int .u8) := by
  have hl : xs.length = ns.length := by simpa using h.1
  apply List.ext_getElem?
  intro i
  by_cases hi : i < ns.length
  · obtain ⟨h1, h2, h3⟩ := h.2 i (.int .u8 ns[i]) (by simp [hi])
    have := h3 0 (.int .u8 ns[i]) (by simp [D.cells])
    simp only [Nat.mul_one, Nat.add_zero] at this
    have e : xs.getD i undef = .int .u8 ns[i] := this.toVc rfl
    have hx : i < xs.length := by omega
    simp only [List.getD_eq_getElem?_getD, List.getElem?_eq_getElem hx, Option.getD_some] at e
    rw [List.getElem?_eq_getElem hx, e]
    simp [hi]
  · rw [List.getElem?_eq_none (by omega), List.getElem?_eq_none (by simp; omega)]

theorem srcP_slice {t2 : TypeId} {k : Nat} {p : P} {ys : List D} (hs : srcP Q s t2 k p = some ys) {e' : TypeId} (ht : Q.underlying t2 = some (.slice e')) {v : Value} (hv : PRep F w G s.rg v p) : ∃ ad n c, v = .slice ad n c := by
  unfold srcP at hs
  split at hs
  · rename_i n ver len
    split at hs
    · rename_i ty fz es e' ho ht2
      obtain ⟨e, he, hev, heo⟩ := S.obj_spec ho
      cases hv with
      | sl _ _ _ _ h1 hr =>
        obtain ⟨a0, N, cap, hG, rfl, hle⟩ := hr.at he hev (by rw [heo]; rfl)
        exact ⟨_, _, _, rfl⟩
    · cases hs
  · cases hv with
    | d hv => cases hv <;> exact ⟨_, _, _, rfl⟩
  · cases hv with
    | d hv => cases hv; exact ⟨_, _, _, rfl⟩
  · rw [ht] at hs; simp at hs
  · cases hs

theorem run_bytes_src {src e dst : TypeId} (hs : Q.underlying src = some (.slice e)) (he : Q.underlying e = some (.int .u8)) (hd : Q.underlying dst = some .string) {v : Value} {ys : List D} {news : List Value} {l : List UInt8}
    (hsl : ∃ ad n c, v = .slice ad n c) (hsrc : Src Q 1 src v ys.length news w) (hf : FRep F w 1 ys news) (hb : bytesD ys = some l) : (Go.convert src dst v).run Q w = .ok (.string ⟨⟨l⟩⟩) w := by
  obtain ⟨ad, n, c, rfl⟩ := hsl
  obtain ⟨ns, rfl, rfl⟩ := bytesD_spec ys l hb
  have hn := frep_ints hf
  subst hn
  have hlen : n = ns.length := by
    have := hsrc.len w
    simp [Builtin.lenOf] at this
    exact this
  subst hlen
  have hc := hsrc.cells
  cases ad with
  | none =>
    simp [Builtin.firstCells] at hc
    have : ns = [] := by simpa using hc.symm
    subst this
    rw [run_convert_bytes_nil w src e hs he _ _ dst hd]
    rfl
  | some ad =>
    simp only [Builtin.firstCells, List.length_map, Nat.mul_one] at hc
    rw [run_convert_bytes_string w src dst e _ _ c hs he hd, run_bytesToString w _ _ c ns hc, foldl_push_bytes]
    simp [ByteArray.empty, ByteArray.emptyWithCapacity]
    rfl

def Ran (Q : Program) (o : Oper) (a : Act) (w : World) (v : Value) (w' : World) : Prop :=
  (execOp a.eval o).run Q w = .ok (.value v) w' ∨ ((execOp a.eval o).run Q w = .ok .skip w' ∧ v = undef)

theorem ef_ok (h : SRel Q T F G w a s) {g : Option (Nat × Bool)} (hg : GuardOK a g) {o : Oper} {s' : S} (hs : ef Q s o g = some s') :
    ∃ v w' F' G', Ran Q o a w v w' ∧ SRel Q T F' G' w' (a.put o.dst v) s' ∧ Ext (Own G s.rg) (Own G' s'.rg) F F' w w' := by
  unfold ef at hs
  unfold Ran execOp
  split at hs
  · rename_i t ho
    split at hs
    · rename_i z hz
      obtain ⟨zv, hzr, hzd⟩ := run_zero (F := F) hz w
      obtain ⟨c1, c2, c3⟩ := dcells_ok hzd
      obtain ⟨G', d1, d2⟩ := newBox_ok h hs (cs := zv.cells) (by rw [c1]; cases z <;> simp [P.cells, D.cells]) (dcells_one hzd) (fun i v c hv hc => by
        have : ∃ x, c = .d x ∧ z.cells[i]? = some x := by
          cases z <;> simp only [P.cells, D.cells] at hc ⊢ <;> first
            | (simp only [List.getElem?_map, Option.map_eq_some_iff] at hc; obtain ⟨x, hx, rfl⟩ := hc; exact ⟨x, rfl, hx⟩)
            | (cases i <;> simp at hc ⊢; exact hc.symm)
        obtain ⟨x, rfl, hx⟩ := this
        exact .d (c3 i v x hv hx))
      refine ⟨_, _, F, G', .inl ?_, d1, d2⟩
      simp [ho, Instr.alloc, hzr, newVar, newRow]
    · cases hs
  · rename_i t x ho
    have hx := eg_ok h hg x
    split at hs
    · rename_i hall
      obtain ⟨c1, c2, c3⟩ := cells_ok hx hall
      obtain ⟨G', d1, d2⟩ := newBox_ok h hs c1 c3 c2
      refine ⟨_, _, F, G', .inl ?_, d1, d2⟩
      simp [ho, Instr.box, newVar, newRow]
    · cases hs
  · rename_i t ad x ho
    split at hs
    · rename_i s1 h1
      obtain ⟨w', F', G', hrun, d1, d2⟩ := storeP_ok h h1 (eg_ok h hg ad) (eg_ok h hg x)
      obtain ⟨e1, e2⟩ := put_ok d1 hs (v := undef) (TRep.of (.bad _))
      refine ⟨undef, w', F', G', .inr ⟨by simp [ho, hrun], rfl⟩, e1, ?_⟩
      rw [e2]
      exact d2
    · cases hs
  · rename_i t1 t2 x ho
    split at hs
    · rename_i e ht1 ht2
      split at hs
      · rename_i ys he hys
        split at hs
        · rename_i l hl
          obtain ⟨news, hsrc, hf⟩ := srcP_ok h (by omega) hys (eg_ok h hg x)
          have hr := run_bytes_src ht1 he ht2 (srcP_slice hys ht1 (eg_ok h hg x)) hsrc hf hl
          obtain ⟨e1, e2⟩ := put_ok h hs (v := .string ⟨⟨l⟩⟩) (TRep.of (.d (.str l)))
          refine ⟨_, w, F, G, .inl (by simp [ho, hr]), e1, ?_⟩
          rw [e2]
          exact Ext.refl _ _ _
        · cases hs
      · cases hs
    · cases hs
  · rename_i c ho
    split at hs
    · rename_i hcal
      split at hs
      · rename_i x y t t2 hargs htys
        obtain ⟨v, w', G', hrun, d1, d2⟩ := appendP_ok (ty := o.type) h hs (eg_ok h hg x) (eg_ok h hg y)
        have ea : c.args = #[x, y] := by apply Array.toList_inj.1; simpa using hargs
        have et : c.argTypes = #[t, t2] := by apply Array.toList_inj.1; simpa using htys
        refine ⟨v, w', F, G', .inl ?_, d1, d2⟩
        simp [ho, resolve, hcal, ea, et, invoke, builtin, hrun]
      · cases hs
    · rename_i hcal
      split at hs
      · rename_i x y t t2 hargs htys
        obtain ⟨v, w', G', hrun, d1, d2⟩ := copyP_ok (ty := o.type) h hs (eg_ok h hg x) (eg_ok h hg y)
        have ea : c.args = #[x, y] := by apply Array.toList_inj.1; simpa using hargs
        have et : c.argTypes = #[t, t2] := by apply Array.toList_inj.1; simpa using htys
        refine ⟨v, w', F, G', .inl ?_, d1, d2⟩
        simp [ho, resolve, hcal, ea, et, invoke, builtin, hrun]
      · cases hs
    · cases hs
  · rename_i t x y ho
    obtain ⟨v, w', G', hrun, d1, d2⟩ := makeP_ok h hs (eg_ok h hg x) (eg_ok h hg y)
    exact ⟨v, w', F, G', .inl (by simp [ho, hrun]), d1, d2⟩
  · rename_i t ho
    obtain ⟨v, w', G', hrun, d1, d2⟩ := makeMapP_ok h hs
    exact ⟨v, w', F, G', .inl (by simp [ho, hrun]), d1, d2⟩
  · rename_i t m k x ho
    obtain ⟨w', F', G', hrun, d1, d2⟩ := mapUpdP_ok h hs (eg_ok h hg m) (eg_ok h hg k) (eg_ok h hg x)
    exact ⟨undef, w', F', G', .inr ⟨by simp [ho, hrun], rfl⟩, d1, d2⟩
  · rename_i t m k x ho
    obtain ⟨w', F', G', hrun, d1, d2⟩ := mapUpdP_ok h hs (eg_ok h hg m) (eg_ok h hg k) (eg_ok h hg x)
    exact ⟨undef, w', F', G', .inr ⟨by simp [ho, hrun], rfl⟩, d1, d2⟩
  · rename_i t x ho
    obtain ⟨v, w', F', G', hrun, d1, d2⟩ := rangeP_ok h hs (eg_ok h hg x)
    exact ⟨v, w', F', G', .inl (by simp [ho, hrun]), d1, d2⟩
  · rename_i t m k ho
    obtain ⟨v, w', F', G', hrun, d1, d2⟩ := mapEntP_ok h hs (eg_ok h hg m) (eg_ok h hg k)
    exact ⟨v, w', F', G', .inl (by simp [ho, hrun]), d1, d2⟩
  · rename_i t m st x ho
    obtain ⟨w', F', G', hrun, d1, d2⟩ := entStP_ok (t := t) h hs (eg_ok h hg m) (eg_ok h hg st) (eg_ok h hg x)
    exact ⟨undef, w', F', G', .inr ⟨by simp [ho, hrun], rfl⟩, d1, d2⟩
  · rename_i t len parts ho
    obtain ⟨v, w', F', G', hrun, d1, d2⟩ := buildP_ok (vs := parts.map fun (i, x) => (i, a.eval x)) h hs (by simp) (fun i x y hx hy => by
      simp only [Array.toList_map, List.getElem?_map, Option.map_eq_some_iff] at hx hy
      obtain ⟨z, hz, rfl⟩ := hx
      obtain ⟨z', hz', rfl⟩ := hy
      rw [hz] at hz'
      cases hz'
      exact ⟨rfl, eg_ok h hg z.2⟩)
    exact ⟨v, w', F', G', .inl (by simp [ho, hrun]), d1, d2⟩
  · cases hs

theorem exec_ok (h : SRel Q T F G w a s) {g : Option (Nat × Bool)} (hg : GuardOK a g) {o : Oper} {s' : S} (hs : exec Q s o g = some s') :
    ∃ v w' F' G', Ran Q o a w v w' ∧ SRel Q T F' G' w' (a.put o.dst v) s' ∧ Ext (Own G s.rg) (Own G' s'.rg) F F' w w' := by
  unfold exec at hs
  split at hs
  · rename_i e hna
    split at hs
    · rename_i s1 v hn
      unfold nilAssign at hna
      split at hna
      · rename_i ho
        obtain ⟨h1, h2, h3, h4⟩ := new_ok h hn (g1 := .slice none 0 0) (w' := w) (fun _ _ => rfl) (Nat.le_refl _) rfl rfl rfl (fun b hb => by simp [ownB, blockOf] at hb) (.inl ⟨upd_same _ _ _, rfl⟩)
        obtain ⟨c1, c2⟩ := put_ok h1 hs (v := .slice none 0 0) (TRep.of (.sl (site o.dst) v 0 _ rfl ⟨_, h4, Nat.le_refl _, fun _ _ => ⟨none, 0, 0, upd_same _ _ _, rfl, Nat.le_refl _⟩⟩))
        refine ⟨.slice none 0 0, w, F, _, .inl (by simp [execOp, ho, Act.eval]), c1, ?_⟩
        rw [c2]
        exact h2
      · cases hna
    · cases hs
  · split at hs
    · rename_i p hp
      obtain ⟨v, hrun, hv⟩ := pv_ok h hg hp
      obtain ⟨c1, c2⟩ := put_ok h hs (TRep.of hv)
      refine ⟨v, w, F, G, .inl hrun, c1, ?_⟩
      rw [c2]
      exact Ext.refl _ _ _
    · exact ef_ok h hg hs
end
end Pi

