/- The text PiRep. -/
import Derived.Test.YtccffeofkhkbcaaGreatDoorPiK
import Derived.Calls
import Derived.Tactics2
import Derived.Laws.AppendOwn
import Derived.Laws.CopyRow
import Derived.Laws.Slices
import Derived.LoopN
/- What the value interpreter's states say of a real world. -/
namespace Pi
open Go

/-! ### maps by number -/
section
variable {α : Type}
theorem lk_ins (k : Nat) (v : α) : ∀ (m : List (Nat × α)) (j : Nat), lk (ins k v m) j = if k = j then some v else lk m j
  | [], j => by by_cases h : k = j <;> simp [ins, lk, h]
  | (i, u) :: r, j => by
    have ih := lk_ins k v r j
    simp only [ins]
    split
    · by_cases h : k = j <;> simp [lk, h]
    · split
      · rename_i h1 h2
        have e : k = i := by simpa using h2
        subst e
        by_cases h : k = j <;> simp [lk, h]
      · rename_i h1 h2
        have e : ¬ i = k := fun e => h2 (by simp [e])
        simp only [lk, ih]
        by_cases h : k = j
        · subst h; simp [e]
        · simp [h]

theorem lk_ins_same (k : Nat) (v : α) (m : List (Nat × α)) : lk (ins k v m) k = some v := by rw [lk_ins, if_pos rfl]
theorem lk_ins_ne {k j : Nat} (v : α) (m : List (Nat × α)) (h : k ≠ j) : lk (ins k v m) j = lk m j := by rw [lk_ins, if_neg h]
end

def Obj.live : Obj → Bool
  | .gone => false
  | _ => true

/-! ### data -/
inductive DRep (F : Nat → Prop) (w : World) : Value → D → Prop
  | bool (b : Bool) : DRep F w (.bool b) (.bool b)
  | int (k : IntKind) (n : Int) : DRep F w (.int k n) (.int k n)
  | str (s : List UInt8) : DRep F w (.string ⟨⟨s⟩⟩) (.str s)
  | nils : DRep F w (.slice none 0 0) .nils
  | nilp : DRep F w (.pointer none) .nilp
  | nilm : DRep F w (.map none) .nilm
  | nilf : DRep F w .nilFunc .nilf
  | nili : DRep F w .nilIface .nili
  | agg (vs : List Value) (cs : List D) (hl : vs.length = cs.length) (hcell : ∀ c ∈ cs, c.isCell = true) (hc : ∀ (i : Nat) (v : Value) (c : D), vs[i]? = some v → cs[i]? = some c → DRep F w v c) : DRep F w (.agg ⟨vs⟩) (.agg cs)
  | slE (a : Option Addr) (k cap : Nat) : DRep F w (.slice a 0 cap) (.sl k [])
  | slN (b off k cap : Nat) (es : List D) (f : Nat → Value) (hcap : es.length ≤ cap) (hb : F b) (hk : ∀ x ∈ es, x.cells.length = k) (hcell : ∀ x ∈ es, ∀ c ∈ x.cells, c.isCell = true)
      (hw : ∀ i, i < es.length * k → w.cell? ⟨b, off + i, none⟩ = some (f i)) (hr : ∀ (i j : Nat) (x c : D), es[i]? = some x → x.cells[j]? = some c → DRep F w (f (i * k + j)) c) : DRep F w (.slice (some ⟨b, off, none⟩) es.length cap) (.sl k es)

theorem cell_same {w w' : World} {b : Nat} (h : w'.heap[b]? = w.heap[b]?) (o : Nat) : w'.cell? ⟨b, o, none⟩ = w.cell? ⟨b, o, none⟩ := by
  simp [World.cell?, h]

theorem DRep.mono {F F' : Nat → Prop} {w w' : World} (hF : ∀ b, F b → F' b) (hw : ∀ b, F b → w'.heap[b]? = w.heap[b]?) {v : Value} {x : D} (h : DRep F w v x) : DRep F' w' v x := by
  induction h with
  | agg vs cs hl hcell _ ih => exact .agg vs cs hl hcell ih
  | slN b off k cap es f hcap hb hk hcell hc _ ih => exact .slN b off k cap es f hcap (hF _ hb) hk hcell (fun i hi => (cell_same (hw b hb) _).trans (hc i hi)) ih
  | _ => constructor

/-- Plain data has one value. -/
theorem DRep.toVc {F : Nat → Prop} {w : World} {v : Value} {x : D} (h : DRep F w v x) {u : Value} (hu : x.toVc = some u) : v = u := by
  cases h <;> simp_all [D.toVc]

theorem DRep.toVs {F : Nat → Prop} {w : World} : ∀ (cs : List D) (us vs : List Value), D.toVs cs = some us → vs.length = cs.length → (∀ (i : Nat) (v : Value) (c : D), vs[i]? = some v → cs[i]? = some c → DRep F w v c) → vs = us
  | [], us, vs, h, hl, _ => by simp [D.toVs] at h; subst h; simpa using hl
  | c :: cs, us, vs, h, hl, hc => by
    cases vs with
    | nil => simp at hl
    | cons v vs =>
      simp only [D.toVs] at h
      cases h1 : c.toVc with
      | none => simp [h1] at h
      | some u1 =>
        cases h2 : D.toVs cs with
        | none => simp [h1, h2] at h
        | some us2 =>
          simp [h1, h2] at h
          subst h
          have e1 := (hc 0 v c (by simp) (by simp)).toVc h1
          have e2 := DRep.toVs cs us2 vs h2 (by simpa using hl) (fun i v c hv hcc => hc (i + 1) v c (by simpa using hv) (by simpa using hcc))
          rw [e1, e2]

theorem DRep.toV {F : Nat → Prop} {w : World} {v : Value} {x : D} (h : DRep F w v x) {u : Value} (hu : x.toV = some u) : v = u := by
  cases x with
  | agg cs =>
    cases h with
    | agg vs _ hl _ hc =>
      simp only [D.toV] at hu
      cases h2 : D.toVs cs with
      | none => simp [h2] at hu
      | some us => simp [h2] at hu; rw [← hu, DRep.toVs cs us vs h2 hl hc]
  | _ => exact h.toVc hu

theorem DRep.ofVc (F : Nat → Prop) (w : World) {v : Value} {x : D} (h : D.ofVc v = some x) : DRep F w v x := by
  unfold D.ofVc at h
  split at h <;> simp at h <;> subst h
  case h_3 s => cases s with | mk a => cases a with | mk l => exact .str l
  all_goals constructor

theorem D.ofVc_cell {v : Value} {x : D} (h : D.ofVc v = some x) : x.isCell = true := by
  unfold D.ofVc at h
  split at h <;> simp at h <;> subst h <;> rfl

theorem DRep.ofVs (F : Nat → Prop) (w : World) : ∀ (vs : List Value) (xs : List D), D.ofVs vs = some xs → vs.length = xs.length ∧ (∀ c ∈ xs, c.isCell = true) ∧ ∀ (i : Nat) (v : Value) (c : D), vs[i]? = some v → xs[i]? = some c → DRep F w v c
  | [], xs, h => by simp [D.ofVs] at h; subst h; simp
  | v :: vs, xs, h => by
    simp only [D.ofVs] at h
    cases h1 : D.ofVc v with
    | none => simp [h1] at h
    | some x1 =>
      cases h2 : D.ofVs vs with
      | none => simp [h1, h2] at h
      | some xs2 =>
        simp [h1, h2] at h
        subst h
        obtain ⟨e1, e2, e3⟩ := DRep.ofVs F w vs xs2 h2
        refine ⟨by simp [e1], ?_, ?_⟩
        · intro c hc
          rcases List.mem_cons.1 hc with rfl | hc
          · exact D.ofVc_cell h1
          · exact e2 c hc
        · intro i u c hu hcc
          cases i with
          | zero => simp at hu hcc; subst hu; subst hcc; exact DRep.ofVc F w h1
          | succ i => exact e3 i u c (by simpa using hu) (by simpa using hcc)

theorem DRep.ofV (F : Nat → Prop) (w : World) {v : Value} {x : D} (h : D.ofV v = some x) : DRep F w v x := by
  unfold D.ofV at h
  split at h
  · rename_i cs
    split at h
    · rename_i xs hxs
      simp at h
      subst h
      obtain ⟨e1, e2, e3⟩ := DRep.ofVs F w cs.toList xs hxs
      have := DRep.agg (F := F) (w := w) cs.toList xs e1 e2 e3
      simpa using this
    · cases h
  · exact DRep.ofVc F w h

/-- A value of plain data is one cell. -/
theorem DRep.oneCell {F : Nat → Prop} {w : World} {v : Value} {x : D} (h : DRep F w v x) (hx : x.isCell = true) : v.oneCell' = true := by
  cases h <;> simp_all [D.isCell, Value.oneCell']

theorem DRep.isCell {F : Nat → Prop} {w : World} {v : Value} {x : D} (h : DRep F w v x) (hv : v.oneCell' = true) : x.isCell = true := by
  cases h <;> simp_all [D.isCell, Value.oneCell']

/-! ### frame values -/
/-- What is said of a reference: if it is up to date. -/
def RefOK (R : List (Nat × En)) (n ver : Nat) (C : Prop) : Prop := ∃ e, lk R n = some e ∧ ver ≤ e.ver ∧ (ver = e.ver → e.obj.live = true → C)

inductive PRep (F : Nat → Prop) (w : World) (G : Nat → Value) (R : List (Nat × En)) : Value → P → Prop
  | d {v : Value} {x : D} (h : DRep F w v x) : PRep F w G R v (.d x)
  | agg (vs : List Value) (ps : List P) (hl : vs.length = ps.length) (hone : ∀ v ∈ vs, v.oneCell' = true) (hc : ∀ (i : Nat) (v : Value) (c : P), vs[i]? = some v → ps[i]? = some c → PRep F w G R v c) : PRep F w G R (.agg ⟨vs⟩) (.agg ps)
  | tup (vs : List Value) (ps : List P) (hl : vs.length = ps.length) (hc : ∀ (i : Nat) (v : Value) (c : P), vs[i]? = some v → ps[i]? = some c → PRep F w G R v c) : PRep F w G R (.tuple ⟨vs⟩) (.tup ps)
  | ref (n ver off : Nat) (v : Value) (h : RefOK R n ver (∃ b, G n = .pointer (some ⟨b, 0, none⟩) ∧ v = .pointer (some ⟨b, off, none⟩))) (h1 : v.oneCell' = true) : PRep F w G R v (.ref n ver off)
  | eref (n ver i k off : Nat) (v : Value) (h1 : v.oneCell' = true) (h : RefOK R n ver (∃ b N cap, G n = .slice (some ⟨b, 0, none⟩) N cap ∧ v = .pointer (some ⟨b, i * k + off, none⟩))) : PRep F w G R v (.eref n ver i k off)
  | fref (x : D) (off b o : Nat) (hb : F b) (hcell : ∀ c ∈ x.cells, c.isCell = true) (f : Nat → Value) (hw : ∀ j, j < x.cells.length → w.cell? ⟨b, o + j, none⟩ = some (f j)) (hr : ∀ (j : Nat) (c : D), x.cells[j]? = some c → DRep F w (f j) c) : PRep F w G R (.pointer (some ⟨b, o + off, none⟩)) (.fref x off)
  | sl (n ver len : Nat) (v : Value) (h1 : v.oneCell' = true) (h : RefOK R n ver (∃ a N cap, G n = .slice a N cap ∧ v = .slice a len cap ∧ len ≤ N)) : PRep F w G R v (.sl n ver len)
  | mp (n ver : Nat) (v : Value) (h1 : v.oneCell' = true) (h : RefOK R n ver (v = G n)) : PRep F w G R v (.mp n ver)
  | fn (f : FuncId) (vs : List Value) (caps : List P) (hl : vs.length = caps.length) (hc : ∀ (i : Nat) (v : Value) (c : P), vs[i]? = some v → caps[i]? = some c → PRep F w G R v c) : PRep F w G R (.func (.func f) #[] ⟨vs⟩) (.fn f caps)
  | bad (v : Value) : PRep F w G R v .bad

theorem RefOK.mono {R R' : List (Nat × En)} {n ver : Nat} {C C' : Prop} (hC : C → C') (hR : ∀ e, lk R n = some e → ∃ e', lk R' n = some e' ∧ e.ver ≤ e'.ver ∧ (e.ver = e'.ver → e'.obj.live = true → e.obj.live = true)) (h : RefOK R n ver C) : RefOK R' n ver C' := by
  obtain ⟨e, he, hv, hc⟩ := h
  obtain ⟨e', he', hv', hl⟩ := hR e he
  refine ⟨e', he', Nat.le_trans hv hv', fun h1 h2 => hC (hc (by omega) (hl (by omega) h2))⟩

/-- Going on to another world, other names: what is needed for each name. -/
structure Names (G G' : Nat → Value) (R R' : List (Nat × En)) : Prop where
  on : ∀ n e, lk R n = some e → ∃ e', lk R' n = some e' ∧ e.ver ≤ e'.ver ∧ (e.ver = e'.ver → e'.obj.live = true → e.obj.live = true)
  same : ∀ n e e', lk R n = some e → lk R' n = some e' → e.ver = e'.ver → e'.obj.live = true → G' n = G n

theorem RefOK.go {G G' : Nat → Value} {R R' : List (Nat × En)} (hn : Names G G' R R') {n ver : Nat} {C : (Value → Prop)} (h : RefOK R n ver (C (G n))) : RefOK R' n ver (C (G' n)) := by
  obtain ⟨e, he, hv, hc⟩ := h
  obtain ⟨e', he', hv', hl⟩ := hn.on n e he
  refine ⟨e', he', Nat.le_trans hv hv', fun h1 h2 => ?_⟩
  have e0 : e.ver = e'.ver := by omega
  rw [hn.same n e e' he he' e0 h2]
  exact hc (by omega) (hl e0 h2)

theorem PRep.mono {F F' : Nat → Prop} {w w' : World} {G G' : Nat → Value} {R R' : List (Nat × En)} (hF : ∀ b, F b → F' b) (hw : ∀ b, F b → w'.heap[b]? = w.heap[b]?) (hn : Names G G' R R')
    {v : Value} {p : P} (h : PRep F w G R v p) : PRep F' w' G' R' v p := by
  induction h with
  | d h => exact .d (h.mono hF hw)
  | agg vs ps hl hcell _ ih => exact .agg vs ps hl hcell ih
  | tup vs ps hl _ ih => exact .tup vs ps hl ih
  | ref n ver off v h h1 => exact .ref n ver off v (RefOK.go (C := fun g => ∃ b, g = .pointer (some ⟨b, 0, none⟩) ∧ v = .pointer (some ⟨b, off, none⟩)) hn h) h1
  | eref n ver i k off v h1 h => exact .eref n ver i k off v h1 (RefOK.go (C := fun g => ∃ b N cap, g = .slice (some ⟨b, 0, none⟩) N cap ∧ v = .pointer (some ⟨b, i * k + off, none⟩)) hn h)
  | fref x off b o hb hcell f hc hr => exact .fref x off b o (hF _ hb) hcell f (fun j hj => (cell_same (hw b hb) _).trans (hc j hj)) (fun j c hj => (hr j c hj).mono hF hw)
  | sl n ver len v h1 h => exact .sl n ver len v h1 (RefOK.go (C := fun g => ∃ a N cap, g = .slice a N cap ∧ v = .slice a len cap ∧ len ≤ N) hn h)
  | mp n ver v h1 h => exact .mp n ver v h1 (RefOK.go (C := fun g => v = g) hn h)
  | fn f vs caps hl _ ih => exact .fn f vs caps hl ih
  | bad v => exact .bad v

theorem PRep.oneCell {F : Nat → Prop} {w : World} {G : Nat → Value} {R : List (Nat × En)} {v : Value} {p : P} (h : PRep F w G R v p) (hp : p.isCell = true) : v.oneCell' = true := by
  cases h <;> try simp_all [P.isCell]
  case d x h => exact h.oneCell hp
  all_goals simp [Value.oneCell']

/-! ### own objects -/
def blockOf : Value → Option Nat
  | .pointer (some a) => some a.block
  | .slice (some a) _ _ => some a.block
  | .map r => r
  | _ => none

/-- The block that an object owns. -/
def ownB (g : Value) : Obj → Option Nat
  | .gone => none
  | .box _ _ => blockOf g
  | .arr _ fz _ => if fz then none else blockOf g
  | .map _ _ _ fz => if fz then none else blockOf g
  | .iter .. => blockOf g
  | .stamp => none
  | .mapE .. => blockOf g

def ERep (F : Nat → Prop) (w : World) (cs : Array Value) (k : Nat) (es : List D) : Prop :=
  ∀ (i : Nat) (x : D), es[i]? = some x → x.cells.length = k ∧ (∀ c ∈ x.cells, c.isCell = true) ∧ ∀ (j : Nat) (c : D), x.cells[j]? = some c → DRep F w (cs.getD (i * k + j) undef) c

/-- The entries of a map: 'ks': keys and elements, as data. -/
def MRep (Q : Program) (F : Nat → Prop) (w : World) (kt : TypeId) (get : D → Option D) (n : Int) (es : List MapEntry) (clock : Nat) : Prop :=
  ∃ ks : List (D × D), ks.length = es.length ∧ n = (es.length : Int) ∧ (∀ (i : Nat) (p : D × D) (e : MapEntry), ks[i]? = some p → es[i]? = some e → keyB Q kt p.1 = true ∧ p.1.toV = some e.key ∧ DRep F w e.val p.2) ∧
    (ks.map (·.1)).Nodup ∧ (∀ k v, get k = some v ↔ (k, v) ∈ ks) ∧ (∀ e ∈ es, e.born < clock) ∧ (es.map (·.born)).Nodup

theorem MRep.mono {Q : Program} {F F' : Nat → Prop} {w w' : World} {kt : TypeId} {get : D → Option D} {n : Int} {es : List MapEntry} {clock : Nat} (hF : ∀ b, F b → F' b) (hw : ∀ b, F b → w'.heap[b]? = w.heap[b]?) (h : MRep Q F w kt get n es clock) : MRep Q F' w' kt get n es clock := by
  obtain ⟨ks, h1, h2, h3, h4, h5, h6, h7⟩ := h
  exact ⟨ks, h1, h2, fun i p e hp he => let ⟨a, b, c⟩ := h3 i p e hp he; ⟨a, b, c.mono hF hw⟩, h4, h5, h6, h7⟩

/-- The entries of a map that are left. -/
def IRep (Q : Program) (F : Nat → Prop) (w : World) (kt : TypeId) (left : D → Option D) (es : List MapEntry) (clock : Nat) (seen : Array Nat) : Prop :=
  ∃ ks : List (D × D), ks.length = es.length ∧ (∀ (i : Nat) (p : D × D) (e : MapEntry), ks[i]? = some p → es[i]? = some e → keyB Q kt p.1 = true ∧ p.1.toV = some e.key ∧ DRep F w e.val p.2) ∧
    (ks.map (·.1)).Nodup ∧ (∀ e ∈ es, e.born < clock) ∧ (es.map (·.born)).Nodup ∧ ∀ k v, left k = some v ↔ ∃ (i : Nat) (e : MapEntry), ks[i]? = some (k, v) ∧ es[i]? = some e ∧ seen.contains e.born = false

theorem IRep.mono {Q : Program} {F F' : Nat → Prop} {w w' : World} {kt : TypeId} {left : D → Option D} {es : List MapEntry} {clock : Nat} {seen : Array Nat} (hF : ∀ b, F b → F' b) (hw : ∀ b, F b → w'.heap[b]? = w.heap[b]?) (h : IRep Q F w kt left es clock seen) : IRep Q F' w' kt left es clock seen := by
  obtain ⟨ks, h1, h3, h4, h5, h6, h7⟩ := h
  exact ⟨ks, h1, fun i p e hp he => let ⟨a, b, c⟩ := h3 i p e hp he; ⟨a, b, c.mono hF hw⟩, h4, h5, h6, h7⟩

/-- All entries are left at first. -/
theorem MRep.iter {Q : Program} {F : Nat → Prop} {w : World} {kt : TypeId} {get : D → Option D} {n : Int} {es : List MapEntry} {clock : Nat} (h : MRep Q F w kt get n es clock) : IRep Q F w kt get es clock #[] := by
  obtain ⟨ks, h1, _, h3, h4, h5, h6, h7⟩ := h
  refine ⟨ks, h1, h3, h4, h6, h7, fun k v => ⟨fun hk => ?_, fun ⟨i, e, hi, _, _⟩ => (h5 k v).2 (List.mem_of_getElem? hi)⟩⟩
  obtain ⟨i, hi⟩ := List.getElem?_of_mem ((h5 k v).1 hk)
  have hlt : i < es.length := by have := (List.getElem?_eq_some_iff.1 hi).1; omega
  exact ⟨i, es[i], hi, List.getElem?_eq_getElem hlt, by simp⟩

def ORep (Q : Program) (F : Nat → Prop) (w : World) (G : Nat → Value) (R : List (Nat × En)) (n : Nat) : Obj → Prop
  | .gone => True
  | .box T ps => ∃ b cs, G n = .pointer (some ⟨b, 0, none⟩) ∧ w.heap[b]? = some (.cells cs T (0, 0)) ∧ cs.size = ps.length ∧ (∀ v ∈ cs.toList, v.oneCell' = true) ∧ ∀ (i : Nat) (p : P), ps[i]? = some p → PRep F w G R (cs.getD i undef) p
  | .arr ty fz es => (G n = .slice none 0 0 ∧ es = []) ∨
      ∃ b cap cs k, G n = .slice (some ⟨b, 0, none⟩) es.length cap ∧ w.heap[b]? = some (.cells cs ty (0, 0)) ∧ sz Q ty = some k ∧ 0 < k ∧ es.length ≤ cap ∧ cap ≤ maxLen ∧ cs.size = cap * k ∧ (fz = true → F b) ∧ ERep F w cs k es
  | .map kt get c fz => ∃ b es clock, G n = .map (some b) ∧ w.heap[b]? = some (.map es clock) ∧ MRep Q F w kt get c es.toList clock ∧ (fz = true → F b)
  | .stamp => True
  | .mapE kt get c p kd => ∃ b es clock, G n = .map (some b) ∧ w.heap[b]? = some (.map es clock) ∧ MRep Q F w kt get c es.toList clock ∧ ∃ (i : Nat) (e : MapEntry), es[i]? = some e ∧ PRep F w G R (.int .i64 (e.born : Int)) p ∧ kd.toV = some e.key ∧ (get kd).isSome = true
  | .iter kt _ left cur => ∃ b mo since seen last, G n = .pointer (some ⟨b, 0, none⟩) ∧ w.heap[b]? = some (.mapIter mo since seen last) ∧
      ((mo = none ∧ (∀ k, left k = none) ∧ cur = none) ∨ ∃ m es, mo = some m ∧ F m ∧ w.heap[m]? = some (.map es since) ∧ last = since ∧ IRep Q F w kt left es.toList since seen ∧ ∀ k v, cur = some (k, v) → ∃ e ∈ es.toList, seen.back? = some e.born ∧ k.toV = some e.key ∧ DRep F w e.val v)

/-- A temporary's value; under a guard. -/
def TRep (F : Nat → Prop) (w : World) (G : Nat → Value) (R : List (Nat × En)) (_tmps : Array Value) (v : Value) : P → Prop
  | .when .. => v = undef
  | p => PRep F w G R v p

theorem TRep.of {F : Nat → Prop} {w : World} {G : Nat → Value} {R : List (Nat × En)} {tmps : Array Value} {v : Value} {p : P} (h : PRep F w G R v p) : TRep F w G R tmps v p := by
  cases p <;> first | exact h | cases h

theorem TRep.mono {F F' : Nat → Prop} {w w' : World} {G G' : Nat → Value} {R R' : List (Nat × En)} (hF : ∀ b, F b → F' b) (hw : ∀ b, F b → w'.heap[b]? = w.heap[b]?) (hn : Names G G' R R')
    {tmps : Array Value} {v : Value} {p : P} (h : TRep F w G R tmps v p) : TRep F' w' G' R' tmps v p := by
  cases p with
  | when t b q => exact h
  | _ => exact PRep.mono hF hw hn h

/-- What tags stand for; the world in which all began. -/
structure Tg where
  val : Nat → Value
  w0 : World
instance : CoeFun Tg fun _ => Nat → Value := ⟨Tg.val⟩

structure SRel (Q : Program) (T : Tg) (F : Nat → Prop) (G : Nat → Value) (w : World) (a : Act) (s : S) : Prop where
  nod : a.defers = []
  size : s.n ≤ a.tmps.size
  tm : ∀ t p, lk s.tm t = some p → TRep F w G s.rg a.tmps (a.tmps.getD t undef) p
  rg : ∀ n e, lk s.rg n = some e → ORep Q F w G s.rg n e.obj
  own : ∀ n m e e' b, lk s.rg n = some e → lk s.rg m = some e' → ownB (G n) e.obj = some b → ownB (G m) e'.obj = some b → n = m
  fre : ∀ n e b, lk s.rg n = some e → ownB (G n) e.obj = some b → ¬ F b
  bnd : ∀ b, F b → b < w.heap.size
  tag : ∀ n e i, lk s.rg n = some e → e.tag = some i → e.obj.live = true → G n = T i
  z : ∀ b, b < T.w0.heap.size → F b ∧ w.heap[b]? = T.w0.heap[b]?
  dr : T.w0.drawn ≤ w.drawn

def Own (G : Nat → Value) (R : List (Nat × En)) (b : Nat) : Prop := ∃ n e, lk R n = some e ∧ ownB (G n) e.obj = some b

structure Ext (own own' F F' : Nat → Prop) (w w' : World) : Prop where
  fmono : ∀ b, F b → F' b
  fnew : ∀ b, F' b → F b ∨ own b ∨ w.heap.size ≤ b
  onew : ∀ b, own' b → own b ∨ w.heap.size ≤ b
  keep : ∀ b, b < w.heap.size → ¬ own b → w'.heap[b]? = w.heap[b]?
  size : w.heap.size ≤ w'.heap.size
  os : w'.os = w.os
  tape : w'.tape = w.tape
  output : w'.output = w.output

theorem Ext.refl (own F : Nat → Prop) (w : World) : Ext own own F F w w :=
  ⟨fun _ h => h, fun _ h => .inl h, fun _ h => .inl h, fun _ _ _ => rfl, Nat.le_refl _, rfl, rfl, rfl⟩

theorem Ext.trans {o1 o2 o3 F1 F2 F3 : Nat → Prop} {w1 w2 w3 : World} (h : Ext o1 o2 F1 F2 w1 w2) (k : Ext o2 o3 F2 F3 w2 w3) : Ext o1 o3 F1 F3 w1 w3 where
  fmono b hb := k.fmono b (h.fmono b hb)
  fnew b hb := by
    rcases k.fnew b hb with h1 | h1 | h1
    · exact h.fnew b h1
    · rcases h.onew b h1 with h2 | h2
      · exact .inr (.inl h2)
      · exact .inr (.inr h2)
    · exact .inr (.inr (Nat.le_trans h.size h1))
  onew b hb := by
    rcases k.onew b hb with h1 | h1
    · exact h.onew b h1
    · exact .inr (Nat.le_trans h.size h1)
  keep b hb hn := by
    have hn2 : ¬ o2 b := fun h2 => by rcases h.onew b h2 with h3 | h3; exact hn h3; omega
    rw [k.keep b (Nat.lt_of_lt_of_le hb h.size) hn2, h.keep b hb hn]
  size := Nat.le_trans h.size k.size
  os := k.os.trans h.os
  tape := k.tape.trans h.tape
  output := k.output.trans h.output

theorem Names.refl (G : Nat → Value) (R : List (Nat × En)) : Names G G R R := ⟨fun _ e h => ⟨e, h, Nat.le_refl _, fun _ h => h⟩, fun _ _ _ _ _ _ _ => rfl⟩

theorem ORep.lt {Q : Program} {F : Nat → Prop} {w : World} {G : Nat → Value} {R : List (Nat × En)} {n : Nat} {o : Obj} (h : ORep Q F w G R n o) {b : Nat} (hb : ownB (G n) o = some b) : b < w.heap.size := by
  cases o with
  | gone => simp [ownB] at hb
  | box T ps =>
    obtain ⟨b', cs, hg, hh, _⟩ := h
    simp [ownB, hg, blockOf] at hb
    subst hb
    exact (Array.getElem?_eq_some_iff.1 hh).1
  | arr ty fz es =>
    rcases h with ⟨hg, _⟩ | ⟨b', cap, cs, k, hg, hh, _⟩
    · simp [ownB, hg, blockOf] at hb
    · simp [ownB, hg, blockOf] at hb
      obtain ⟨_, rfl⟩ := hb
      exact (Array.getElem?_eq_some_iff.1 hh).1
  | map kt get c fz =>
    obtain ⟨b', es, clock, hg, hh, _⟩ := h
    simp [ownB, hg, blockOf] at hb
    obtain ⟨_, rfl⟩ := hb
    exact (Array.getElem?_eq_some_iff.1 hh).1
  | iter kt vt left cur =>
    obtain ⟨b', mo, since, seen, last, hg, hh, _⟩ := h
    simp [ownB, hg, blockOf] at hb
    subst hb
    exact (Array.getElem?_eq_some_iff.1 hh).1
  | stamp => simp [ownB] at hb
  | mapE kt get c p kd =>
    obtain ⟨b', es, clock, hg, hh, _⟩ := h
    simp [ownB, hg, blockOf] at hb
    subst hb
    exact (Array.getElem?_eq_some_iff.1 hh).1

end Pi

