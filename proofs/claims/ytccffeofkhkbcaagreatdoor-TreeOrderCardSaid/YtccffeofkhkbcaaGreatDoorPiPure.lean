/- The text PiPure. -/
import Derived.Test.YtccffeofkhkbcaaGreatDoorPiRep
/- Operations that change nothing: what the interpreter says of them holds. -/
namespace Pi
open Go

theorem evalPure_run {α : Type} {Q : Program} {m : Sem α} {v : α} (h : evalPure Q m = some v) (w : World) : m.run Q w = .ok v w := by
  induction m with
  | pure a => simp [evalPure] at h; subst h; rfl
  | program k ih => simp only [evalPure] at h; simp only [Sem.run]; exact ih _ h
  | mark m k ih => simp only [evalPure] at h; simp only [Sem.run]; exact ih h
  | _ => simp [evalPure] at h

theorem pureV_run {Q : Program} {m : Sem Value} {p : P} (h : pureV Q m = some p) (F : Nat → Prop) (w : World) (G : Nat → Value) (R : List (Nat × En)) : ∃ v, m.run Q w = .ok v w ∧ PRep F w G R v p := by
  unfold pureV at h
  split at h
  · rename_i v hv
    split at h
    · rename_i x hx
      simp at h
      subst h
      exact ⟨v, evalPure_run hv w, .d (DRep.ofV F w hx)⟩
    · cases h
  · cases h

theorem PRep.toV {F : Nat → Prop} {w : World} {G : Nat → Value} {R : List (Nat × En)} {v u : Value} {p : P} (h : PRep F w G R v p) (hu : p.toV = some u) : v = u := by
  cases h <;> simp [P.toV] at hu
  case d x h => exact h.toV hu

theorem S.obj_spec {s : S} {n v : Nat} {o : Obj} (h : s.obj n v = some o) : ∃ e, lk s.rg n = some e ∧ e.ver = v ∧ e.obj = o := by
  unfold S.obj at h
  split at h
  · rename_i e he
    split at h
    · rename_i hv
      simp at h
      exact ⟨e, he, by simpa using hv, h⟩
    · cases h
  · cases h

theorem S.live_spec {s : S} {n v : Nat} (h : s.live n v = true) : ∃ e, lk s.rg n = some e ∧ e.ver = v ∧ e.obj.live = true := by
  unfold S.live at h
  split at h
  · cases h
  · rename_i o h1 h2
    obtain ⟨e, he, hv, ho⟩ := S.obj_spec h2
    refine ⟨e, he, hv, ?_⟩
    cases hh : e.obj <;> simp [Obj.live]
    exact h1 (by rw [← hh, ho])
  · cases h

theorem RefOK.at {R : List (Nat × En)} {n ver : Nat} {C : Prop} (h : RefOK R n ver C) {e : En} (he : lk R n = some e) (hv : e.ver = ver) (hl : e.obj.live = true) : C := by
  obtain ⟨e', he', _, hc⟩ := h
  rw [he] at he'
  cases he'
  exact hc hv.symm hl

/-- The guard of an operation that is carried out. -/
def GuardOK (a : Act) : Option (Nat × Bool) → Prop
  | none => True
  | some (t, b) => a.tmps[t]? = some (.bool b)

section
variable {Q : Program} {T : Tg} {F : Nat → Prop} {G : Nat → Value} {w : World} {a : Act} {s : S}

theorem ev_ok (h : SRel Q T F G w a s) (x : Operand) : TRep F w G s.rg a.tmps (a.eval x) (s.ev x) := by
  cases x with
  | tmp t =>
    simp only [S.ev, Act.eval]
    cases hp : lk s.tm t with
    | none => exact TRep.of (.bad _)
    | some p => exact h.tm t p hp
  | const v =>
    simp only [S.ev, Act.eval]
    split
    · rename_i x hx; exact TRep.of (.d (DRep.ofV F w hx))
    · exact TRep.of (.bad _)
  | func f =>
    simp only [S.ev, Act.eval]
    exact TRep.of (.fn f [] [] rfl (fun i v c hv => by simp at hv))
  | global g => exact TRep.of (.bad _)

theorem under_ok {g : Option (Nat × Bool)} (_ : GuardOK a g) {v : Value} {p : P} (h : TRep F w G s.rg a.tmps v p) : PRep F w G s.rg v (p.under g) := by
  cases p with
  | when t b q => exact .bad _
  | _ => exact h

theorem eg_ok (h : SRel Q T F G w a s) {g : Option (Nat × Bool)} (hg : GuardOK a g) (x : Operand) : PRep F w G s.rg (a.eval x) (s.eg g x) := under_ok hg (ev_ok h x)

/-- A value of plain data, where a slot holds it, is there. -/
theorem slot_lt {t : Nat} {v : Value} (h : a.tmps.getD t undef = v) (hv : v ≠ undef) : t < a.tmps.size := by
  by_cases ht : t < a.tmps.size
  · exact ht
  · simp [Array.getD, ht] at h; exact absurd h.symm hv

/-! the parts of cells -/
theorem dats_spec : ∀ (ps : List P) (xs : List D), dats ps = some xs → ps = xs.map P.d
  | [], xs, h => by simp [dats] at h; simp [h]
  | p :: r, xs, h => by
    cases p <;> simp [dats] at h
    rename_i x
    cases hr : dats r with
    | none => simp [hr] at h
    | some ys => simp [hr] at h; subst h; simp [dats_spec r ys hr]

theorem mkAgg_ok {R : List (Nat × En)} {vs : List Value} {ps : List P} (hl : vs.length = ps.length) (hone : ∀ v ∈ vs, v.oneCell' = true)
    (hc : ∀ (i : Nat) (v : Value) (c : P), vs[i]? = some v → ps[i]? = some c → PRep F w G R v c) : PRep F w G R (.agg ⟨vs⟩) (mkAgg ps) := by
  unfold mkAgg
  split
  · rename_i xs hxs
    have e := dats_spec ps xs hxs
    subst e
    have hd : ∀ (i : Nat) (v : Value) (c : D), vs[i]? = some v → xs[i]? = some c → DRep F w v c := fun i v c hv hcc => by
      have := hc i v (.d c) hv (by simp [hcc])
      cases this with | d h => exact h
    refine .d (.agg vs xs (by simpa using hl) (fun c hcc => ?_) hd)
    obtain ⟨i, hi⟩ := List.getElem?_of_mem hcc
    have hlt : i < vs.length := by have := (List.getElem?_eq_some_iff.1 hi).1; simp at hl; omega
    exact (hd i _ c (List.getElem?_eq_getElem hlt) hi).isCell (hone _ (List.getElem_mem hlt))
  · exact .agg vs ps hl hone hc

theorem sz_spec {t : TypeId} {k : Nat} (h : sz Q t = some k) : ∃ i d, Q.info? t = some i ∧ Q.underlying t = some d ∧ i.size = k := by
  unfold sz at h
  split at h
  · rename_i i d h1 h2
    exact ⟨i, d, h1, h2, by simpa using h⟩
  · cases h

theorem run_sizeOf {t : TypeId} {k : Nat} (h : sz Q t = some k) (w : World) : (Go.sizeOf t).run Q w = .ok k w := by
  obtain ⟨i, d, hi, _, rfl⟩ := sz_spec h
  simp [Go.sizeOf, typeInfo, hi]

theorem run_isAgg {t : TypeId} {d : TypeDesc} (h : Q.underlying t = some d) (w : World) : (Go.isAgg t).run Q w = .ok (isAg Q t) w := by
  unfold Go.isAgg isAg
  rw [Sem.run_bind, run_underlying h w, h]
  cases d <;> simp

theorem addr_add (b o n : Nat) : (⟨b, o, none⟩ : Addr).add n = ⟨b, o + n, none⟩ := by
  unfold Addr.add
  split
  · subst_vars; rfl
  · rfl

theorem run_part {t : TypeId} {k : Nat} (hk : sz Q t = some k) (vs : List Value) (off : Nat) (hb : ∀ j, j < (if isAg Q t then k else 1) → off + j < vs.length) (w : World) :
    (Go.part t ⟨vs⟩ off).run Q w = .ok (if isAg Q t then .agg ((List.range k).map fun j => vs.getD (off + j) undef).toArray else vs.getD off undef) w := by
  obtain ⟨_, d, _, hd, _⟩ := sz_spec hk
  unfold Go.part
  rw [Sem.run_bind, run_isAgg hd w]
  cases hag : isAg Q t with
  | true =>
    simp only [hag, if_true] at hb
    simp only [Result.andThen_ok, if_true, Sem.run_bind, run_sizeOf hk, Sem.run_pure]
    congr 3
    rw [← Array.toList_inj]
    apply List.ext_getElem?
    intro i
    by_cases hi : i < k
    · have := hb i hi
      simp [hi, List.getElem?_drop, this]
    · simp [hi, List.getElem?_take]
      try omega
  | false =>
    simp only [hag, Bool.false_eq_true, if_false] at hb
    have := hb 0 (by omega)
    simp only [Nat.add_zero] at this
    simp [this]

/-- Loading a variable whose cells are told. -/
theorem run_loadVar_cells {t : TypeId} {k : Nat} {d : TypeDesc} (hk : sz Q t = some k) (hd : Q.underlying t = some d) (b o : Nat) (f : Nat → Value) (hf : ∀ j, j < (if isAg Q t then k else 1) → w.cell? ⟨b, o + j, none⟩ = some (f j)) :
    (loadVar t ⟨b, o, none⟩).run Q w = .ok (if isAg Q t then .agg ((List.range k).map f).toArray else f 0) w := by
  unfold loadVar
  rw [Sem.run_bind, run_isAgg hd w]
  cases hag : isAg Q t with
  | true =>
    simp only [hag, if_true] at hf
    have hl := run_loadCells (P := Q) w ⟨b, o, none⟩ k f (fun j hj => by rw [addr_add]; exact hf j hj)
    simp [Sem.run_bind, run_sizeOf hk, hl]
  | false =>
    simp only [hag] at hf
    have := hf 0 (by simp)
    simp only [Nat.add_zero] at this
    simp [load, Sem.run, this]

/-- The cells of a part, and the part's value. -/
theorem partP_ok {R : List (Nat × En)} {t : TypeId} {ps : List P} {off : Nat} {p : P} (h : partP Q t ps off = some p) (f : Nat → Value) (hone : ∀ i, i < ps.length → (f i).oneCell' = true)
    (hp : ∀ i c, ps[i]? = some c → PRep F w G R (f i) c) :
    ∃ k, sz Q t = some k ∧ (∀ j, j < (if isAg Q t then k else 1) → off + j < ps.length) ∧ PRep F w G R (if isAg Q t then .agg ((List.range k).map fun j => f (off + j)).toArray else f off) p := by
  unfold partP at h
  cases hk : sz Q t with
  | none => simp [hk] at h
  | some k =>
    refine ⟨k, rfl, ?_⟩
    simp only [hk] at h
    cases hag : isAg Q t with
    | true =>
      simp only [hag, if_true] at h
      split at h
      · rename_i hle
        have hle : off + k ≤ ps.length := by simpa using hle
        simp at h
        subst h
        refine ⟨fun j hj => by simp at hj; omega, ?_⟩
        simp only [if_true]
        refine mkAgg_ok (by simp; omega) (fun v hv => by simp at hv; obtain ⟨j, hj, rfl⟩ := hv; exact hone _ (by omega)) (fun i v c hv hc => ?_)
        rw [List.getElem?_map] at hv
        rw [List.getElem?_take] at hc
        split at hc
        · rename_i hi
          rw [List.getElem?_range hi] at hv
          simp at hv
          subst hv
          rw [List.getElem?_drop] at hc
          exact hp _ c hc
        · cases hc
      · cases h
    | false =>
      simp only [hag] at h
      have hlt : off < ps.length := (List.getElem?_eq_some_iff.1 (by simpa using h)).1
      refine ⟨fun j hj => by simp at hj; omega, ?_⟩
      simpa using hp off p (by simpa using h)

theorem partD_ok {t : TypeId} {cs : List D} {off : Nat} {x : D} (h : partD Q t cs off = some x) (f : Nat → Value) (hcell : ∀ c ∈ cs, c.isCell = true)
    (hp : ∀ i c, cs[i]? = some c → DRep F w (f i) c) :
    ∃ k, sz Q t = some k ∧ (∀ j, j < (if isAg Q t then k else 1) → off + j < cs.length) ∧ DRep F w (if isAg Q t then .agg ((List.range k).map fun j => f (off + j)).toArray else f off) x := by
  unfold partD at h
  cases hk : sz Q t with
  | none => simp [hk] at h
  | some k =>
    refine ⟨k, rfl, ?_⟩
    simp only [hk] at h
    cases hag : isAg Q t with
    | true =>
      simp only [hag, if_true] at h
      split at h
      · rename_i hle
        have hle : off + k ≤ cs.length := by simpa using hle
        simp at h
        subst h
        refine ⟨fun j hj => by simp at hj; omega, ?_⟩
        simp only [if_true]
        refine .agg _ _ (by simp; omega) (fun c hc => hcell c (List.mem_of_mem_drop (List.mem_of_mem_take hc))) (fun i v c hv hc => ?_)
        rw [List.getElem?_map] at hv
        rw [List.getElem?_take] at hc
        split at hc
        · rename_i hi
          rw [List.getElem?_range hi] at hv
          simp at hv
          subst hv
          rw [List.getElem?_drop] at hc
          exact hp _ c hc
        · cases hc
      · cases h
    | false =>
      simp only [hag] at h
      have hlt : off < cs.length := (List.getElem?_eq_some_iff.1 (by simpa using h)).1
      refine ⟨fun j hj => by simp at hj; omega, ?_⟩
      simpa using hp off x (by simpa using h)

theorem underlying_of_sz {t : TypeId} {k : Nat} (h : sz Q t = some k) : ∃ d, Q.underlying t = some d := by
  obtain ⟨_, d, _, hd, _⟩ := sz_spec h
  exact ⟨d, hd⟩

theorem run_loadAt {t : TypeId} {k : Nat} (hk : sz Q t = some k) (b o : Nat) (f : Nat → Value) (hf : ∀ j, j < (if isAg Q t then k else 1) → w.cell? ⟨b, o + j, none⟩ = some (f j)) :
    (Instr.loadAt t (.pointer (some ⟨b, o, none⟩))).run Q w = .ok (if isAg Q t then .agg ((List.range k).map f).toArray else f 0) w := by
  obtain ⟨d, hd⟩ := underlying_of_sz hk
  simp only [Instr.loadAt, Instr.sureAddr, Sem.run_bind, Sem.run_pure, Result.andThen_ok]
  exact run_loadVar_cells hk hd b o f hf

theorem loadP_ok (h : SRel Q T F G w a s) {t : TypeId} {v : Value} {p q : P} (hv : PRep F w G s.rg v p) (hq : loadP Q s t p = some q) : ∃ u, (Instr.loadAt t v).run Q w = .ok u w ∧ PRep F w G s.rg u q := by
  unfold loadP at hq
  cases hv with
  | ref n ver off v hr h1 =>
    simp only at hq
    split at hq
    · rename_i ty ps ho
      obtain ⟨e, he, hev, heo⟩ := S.obj_spec ho
      obtain ⟨b, hG, rfl⟩ := hr.at he hev (by rw [heo]; rfl)
      have hO := h.rg n e he
      rw [heo] at hO
      obtain ⟨b', cs, hG', hh, hsz, hone, hps⟩ := hO
      rw [hG] at hG'
      simp at hG'
      subst hG'
      obtain ⟨k, hk, hlt, hrep⟩ := partP_ok (R := s.rg) hq (fun i => cs.getD i undef) (fun i hi => hone _ (by simp [Array.getD, hsz, hi])) hps
      refine ⟨_, run_loadAt hk b off (fun j => cs.getD (off + j) undef) (fun j hj => ?_), hrep⟩
      have := hlt j hj
      rw [cell_of_row w b (off + j) cs ty (0, 0) hh]
      simp [Array.getD, hsz, this]
    · cases hq
  | eref n ver i k off v h1 hr =>
    simp only at hq
    split at hq
    · rename_i ty fz es ho
      obtain ⟨e, he, hev, heo⟩ := S.obj_spec ho
      obtain ⟨b, N, cap, hG, rfl⟩ := hr.at he hev (by rw [heo]; rfl)
      have hO := h.rg n e he
      rw [heo] at hO
      split at hq
      · rename_i k' x hk' hx
        split at hq
        · rename_i hkk
          have hkk : k = k' := by simpa using hkk
          subst hkk
          split at hq
          · rename_i y hy
            simp at hq
            subst hq
            rcases hO with ⟨hG', _⟩ | ⟨b', cap', cs, k2, hG', hh, hk2, hk0, hle, hcap, hsz, _, hE⟩
            · rw [hG] at hG'; cases hG'
            · rw [hG] at hG'
              simp at hG'
              obtain ⟨rfl, _, _⟩ := hG'
              rw [hk'] at hk2
              cases hk2
              obtain ⟨hl, hcell, hcs⟩ := hE i x hx
              obtain ⟨k3, hk3, hlt, hrep⟩ := partD_ok hy (fun j => cs.getD (i * k + j) undef) hcell (fun j c hc => hcs j c hc)
              have hi : i < es.length := (List.getElem?_eq_some_iff.1 hx).1
              refine ⟨_, run_loadAt hk3 b (i * k + off) (fun j => cs.getD (i * k + (off + j)) undef) (fun j hj => ?_), .d hrep⟩
              have h2 := hlt j hj
              rw [hl] at h2
              have h3 : i * k + (off + j) < cs.size := by
                rw [hsz]
                calc i * k + (off + j) < i * k + k := by omega
                  _ = (i + 1) * k := by rw [Nat.add_mul, Nat.one_mul]
                  _ ≤ cap' * k := Nat.mul_le_mul_right _ (by omega)
              rw [cell_of_row w b _ cs ty (0, 0) hh, Nat.add_assoc]
              simp [Array.getD, h3]
          · cases hq
        · cases hq
      · cases hq
    · cases hq
  | fref x off b o hb hcell f hw hr =>
    simp only at hq
    split at hq
    · rename_i y hy
      simp at hq
      subst hq
      obtain ⟨k3, hk3, hlt, hrep⟩ := partD_ok hy f hcell hr
      refine ⟨_, run_loadAt hk3 b (o + off) (fun j => f (off + j)) (fun j hj => ?_), .d hrep⟩
      rw [Nat.add_assoc]
      exact hw _ (hlt j hj)
    · cases hq
  | _ => cases hq

theorem nilCheckP_val {v : Value} {p q : P} (hv : PRep F w G s.rg v p) (hq : nilCheckP s p = some q) : q = p ∧ ((∃ b, v = .pointer (some b)) ∨ ∃ f c1 c2, v = .func (.func f) c1 c2) := by
  unfold nilCheckP at hq
  cases hv with
  | ref n ver off v hr h1 =>
    simp only at hq
    split at hq
    · rename_i hl
      obtain ⟨e, he, hev, hl⟩ := S.live_spec hl
      obtain ⟨b, _, hv⟩ := hr.at he hev hl
      exact ⟨by simpa using hq.symm, .inl ⟨_, hv⟩⟩
    · cases hq
  | eref n ver i k off v h1 hr =>
    simp only at hq
    split at hq
    · rename_i hl
      obtain ⟨e, he, hev, hl⟩ := S.live_spec hl
      obtain ⟨b, N, cap, _, hv⟩ := hr.at he hev hl
      exact ⟨by simpa using hq.symm, .inl ⟨_, hv⟩⟩
    · cases hq
  | fref x off b o hb hcell f hw hr => exact ⟨by simpa using hq.symm, .inl ⟨_, rfl⟩⟩
  | fn f vs caps hl hc => exact ⟨by simpa using hq.symm, .inr ⟨_, _, _, rfl⟩⟩
  | _ => cases hq

theorem fieldOff_spec {t : TypeId} {f o : Nat} (h : fieldOff Q t f = some o) (b off : Nat) (w : World) : (Instr.fieldAt t (.pointer (some ⟨b, off, none⟩)) f).run Q w = .ok (.pointer (some ⟨b, off + o, none⟩)) w := by
  unfold fieldOff at h
  split at h
  · rename_i fs hfs
    split at h
    · rename_i fl hfl
      split at h
      · rename_i k hk
        simp at h
        subst h
        simp [Instr.fieldAt, run_underlying hfs, hfl, Instr.sureAddr, fieldPlace, run_sizeOf hk, addr_add]
      · cases h
    · cases h
  · cases h

theorem fieldAddrP_ok {t : TypeId} {f : Nat} {v : Value} {p q : P} (hv : PRep F w G s.rg v p) (hq : fieldAddrP Q s t f p = some q) : ∃ u, (Instr.fieldAt t v f).run Q w = .ok u w ∧ PRep F w G s.rg u q := by
  unfold fieldAddrP at hq
  split at hq
  · cases hq
  · rename_i o ho
    cases hv with
    | ref n ver off v hr h1 =>
      simp only at hq
      split at hq
      · rename_i hl
        simp at hq
        subst hq
        obtain ⟨e, he, hev, hl⟩ := S.live_spec hl
        obtain ⟨b, hG, rfl⟩ := hr.at he hev hl
        exact ⟨_, fieldOff_spec ho b off w, .ref n ver (off + o) _ ⟨e, he, by omega, fun _ _ => ⟨b, hG, rfl⟩⟩ rfl⟩
      · cases hq
    | eref n ver i k off v h1 hr =>
      simp only at hq
      split at hq
      · rename_i hl
        simp at hq
        subst hq
        obtain ⟨e, he, hev, hl⟩ := S.live_spec hl
        obtain ⟨b, N, cap, hG, rfl⟩ := hr.at he hev hl
        exact ⟨_, fieldOff_spec ho b (i * k + off) w, .eref n ver i k (off + o) _ rfl ⟨e, he, by omega, fun _ _ => ⟨b, N, cap, hG, by rw [Nat.add_assoc]⟩⟩⟩
      · cases hq
    | fref x off b o' hb hcell f' hw hr =>
      simp at hq
      subst hq
      refine ⟨_, fieldOff_spec ho b (o' + off) w, ?_⟩
      rw [Nat.add_assoc]
      exact .fref x (off + o) b o' hb hcell f' hw hr
    | _ => cases hq

theorem elemTy_spec {t e : TypeId} (h : elemTy Q t = some e) : Q.underlying t = some (.slice e) := by
  unfold elemTy at h
  split at h
  · rename_i e' he; simp at h; rw [he, h]
  · cases h

theorem elem_of {t e : TypeId} (h : Q.underlying t = some (.slice e)) : Q.elem t = e := by simp [Program.elem, h]

theorem arrTy_spec {t e : TypeId} {n : Nat} (h : arrTy Q t = some (n, e)) : Q.underlying t = some (.array n e) := by
  unfold arrTy at h
  split at h
  · rename_i n' e' he; simp at h; rw [he, h.1, h.2]
  · cases h

theorem run_indexAt_arr {t e : TypeId} {n k : Nat} (ht : Q.underlying t = some (.array n e)) (hk : sz Q e = some k) (b off : Nat) (kk : IntKind) {j : Int} (hj : 0 ≤ j ∧ j < (n : Int)) :
    (Instr.indexAt t (.pointer (some ⟨b, off, none⟩)) (.int kk j)).run Q w = .ok (.pointer (some ⟨b, off + j.toNat * k, none⟩)) w := by
  simp [Instr.indexAt, asIntOf, run_underlying ht, Instr.sureAddr, hj, run_sizeOf hk, addr_add]

theorem arrAddrP_ok {t e : TypeId} {n : Nat} {v u : Value} {p i q : P} (ht : Q.underlying t = some (.array n e)) (hv : PRep F w G s.rg v p) (hu : PRep F w G s.rg u i) (hq : arrAddrP Q s n e p i = some q) :
    ∃ x, (Instr.indexAt t v u).run Q w = .ok x w ∧ PRep F w G s.rg x q := by
  unfold arrAddrP at hq
  split at hq
  · rename_i kk j k hk
    cases hu with
    | d hu =>
      cases hu
      split at hq
      · rename_i hj
        cases hv with
        | ref n ver off v hr h1 =>
          simp only at hq
          split at hq
          · rename_i hl
            simp at hq
            subst hq
            obtain ⟨en, he, hev, hl⟩ := S.live_spec hl
            obtain ⟨b, hG, rfl⟩ := hr.at he hev hl
            exact ⟨_, run_indexAt_arr ht hk b off kk hj, .ref n ver _ _ ⟨en, he, by omega, fun _ _ => ⟨b, hG, rfl⟩⟩ rfl⟩
          · cases hq
        | eref n ver i k' off v h1 hr =>
          simp only at hq
          split at hq
          · rename_i hl
            simp at hq
            subst hq
            obtain ⟨en, he, hev, hl⟩ := S.live_spec hl
            obtain ⟨b, N, cap, hG, rfl⟩ := hr.at he hev hl
            exact ⟨_, run_indexAt_arr ht hk b _ kk hj, .eref n ver i k' _ _ rfl ⟨en, he, by omega, fun _ _ => ⟨b, N, cap, hG, by rw [Nat.add_assoc]⟩⟩⟩
          · cases hq
        | fref x off b o hb hcell f hw hr =>
          simp at hq
          subst hq
          refine ⟨_, run_indexAt_arr ht hk b _ kk hj, ?_⟩
          rw [Nat.add_assoc]
          exact .fref x _ b o hb hcell f hw hr
        | _ => cases hq
      · cases hq
  · cases hq

theorem indexAddrP_ok (h : SRel Q T F G w a s) {t : TypeId} {v u : Value} {p i q : P} (hv : PRep F w G s.rg v p) (hu : PRep F w G s.rg u i) (hq : indexAddrP Q s t p i = some q) :
    ∃ x, (Instr.indexAt t v u).run Q w = .ok x w ∧ PRep F w G s.rg x q := by
  unfold indexAddrP at hq
  split at hq
  · rename_i n e het
    exact arrAddrP_ok (arrTy_spec het) hv hu hq
  split at hq
  · rename_i _ e kk j het
    have hun := elemTy_spec het
    have hel := elem_of hun
    cases hu with
    | d hu =>
      cases hu
      split at hq
      · rename_i k hk
        cases hv with
        | sl n ver len v h1 hr =>
          simp only at hq
          split at hq
          · rename_i ty fz es ho
            split at hq
            · rename_i hty
              have hty : ty = e := by simpa using hty
              subst hty
              split at hq
              · rename_i hj
                simp at hq
                subst hq
                obtain ⟨en, he, hev, heo⟩ := S.obj_spec ho
                obtain ⟨a0, N, cap, hG, rfl, hle⟩ := hr.at he hev (by rw [heo]; rfl)
                have hO := h.rg n en he
                rw [heo] at hO
                rcases hO with ⟨hG', _⟩ | ⟨b', cap', cs, k2, hG', hh, hk2, hk0, hle', hcap, hsz, _, hE⟩
                · rw [hG] at hG'
                  simp at hG'
                  omega
                · rw [hG] at hG'
                  simp at hG'
                  obtain ⟨rfl, rfl, rfl⟩ := hG'
                  refine ⟨_, ?_, .eref n ver j.toNat (k + 1) 0 (.pointer (some ⟨b', j.toNat * (k + 1) + 0, none⟩)) rfl ⟨en, he, by omega, fun _ _ => ⟨b', _, _, hG, rfl⟩⟩⟩
                  rw [run_indexAt_slice w t ⟨b', 0, none⟩ len cap _ j (by rw [hel]; exact hun), if_pos hj, hel, run_sizeOf hk]
                  simp [addr_add]
              · cases hq
            · cases hq
          · cases hq
        | d hv =>
          cases hv with
          | slE a0 k' cap =>
            simp at hq
          | slN b off k' cap es f hcap hb hkk hcell hw hr =>
            simp only at hq
            split at hq
            · rename_i hkk'
              have hkk' : k' = k + 1 := by simpa using hkk'
              subst hkk'
              split at hq
              · rename_i hj
                split at hq
                · rename_i x hx
                  simp at hq
                  subst hq
                  have hi : j.toNat < es.length := (List.getElem?_eq_some_iff.1 hx).1
                  have hxm : x ∈ es := List.mem_of_getElem? hx
                  refine ⟨.pointer (some ⟨b, off + j.toNat * (k + 1) + 0, none⟩), ?_, .fref x 0 b (off + j.toNat * (k + 1)) hb (hcell x hxm) (fun m => f (j.toNat * (k + 1) + m)) (fun m hm => ?_) (fun m c hc => hr _ _ _ _ hx hc)⟩
                  · rw [run_indexAt_slice w t ⟨b, off, none⟩ es.length cap _ j (by rw [hel]; exact hun), if_pos (by omega), hel, run_sizeOf hk]
                    simp [addr_add]
                  · rw [Nat.add_assoc]
                    refine hw _ ?_
                    rw [hkk x hxm] at hm
                    calc j.toNat * (k + 1) + m < j.toNat * (k + 1) + (k + 1) := by omega
                      _ = (j.toNat + 1) * (k + 1) := by rw [Nat.add_mul, Nat.one_mul]
                      _ ≤ es.length * (k + 1) := Nat.mul_le_mul_right _ (by omega)
                · cases hq
              · cases hq
            · cases hq
          | _ => cases hq
        | _ => cases hq
      · cases hq
  · cases hq

end
end Pi

