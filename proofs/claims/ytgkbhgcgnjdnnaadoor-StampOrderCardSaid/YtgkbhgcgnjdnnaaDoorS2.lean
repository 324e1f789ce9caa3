/- The seat's tables. -/
import Derived.Test.YtgkbhgcgnjdnnaaDoorStX
import Derived.KernelRfl
import Derived.Test.YtgkbhgcgnjdnnaaDoorProg
namespace Pi
open Go Go.Proofs
set_option maxRecDepth 100000
def kpTab : List (Nat × List (Nat × List Nat × List Nat)) := [(5, [(7, [0, 1, 2, 7, 8], [0, 1, 2, 6, 7]), (12, [0, 1, 2, 7, 9], [0, 1, 2, 6, 7])]),
  (10, [(6, [0, 2, 5, 16, 17, 18], [0, 2, 5])]),
  (11, [(3, [0, 2, 4, 5], [0, 2, 3, 4])]),
  (18, [(2, [0, 1, 10, 11], [4])]),
  (19, [(4, [0, 1, 5], [4])]),
  (22, [(5, [0, 1, 2, 8, 9], [8])]),
  (25, [(2, [0, 1, 5], [4])]),
  (26, [(2, [0, 5, 6, 7], [0, 2])]),
  (27, [(2, [0, 3], [0, 2])]),
  (28, [(2, [0, 3], [0, 3])]),
  (29, [(3, [0, 1, 5, 6], [5])]),
  (30, [(3, [0, 1, 5, 6], [5])]),
  (40, [(3, [0, 4, 5], [0, 4, 5])]),
  (42, [(4, [0, 3], [0, 3])]),
  (43, [(3, [0, 1, 2, 7, 16, 17], [7])]),
  (46, [(1, [0], [0])]),
  (48, [(3, [3, 6, 7, 8], [2, 3])]),
  (51, [(11, [0, 1, 2, 3, 9, 10], [0, 9, 10])]),
  (52, [(10, [5, 6, 47, 48, 49], [2, 3, 5, 6])]),
  (56, [(6, [0, 1, 6, 7], [0, 1, 6])]),
  (57, [(6, [0, 1, 5], [4])]),
  (65, [(2, [2, 4], [2])]),
  (68, [(15, [0, 1, 5, 6, 7, 8, 9, 10], [4])]),
  (69, [(36, [1, 8, 9, 10, 11, 12, 13, 99, 100, 101], [6, 7, 9, 12, 13])]),
  (74, [(1, [0, 1, 4], [0, 1, 4])]),
  (75, [(11, [0, 1, 3, 4, 10, 11, 12, 13, 14, 15, 16], [0, 1, 3, 4, 10, 11, 12, 13]), (18, [0, 1, 3, 4, 10, 11, 12, 13, 17], [0, 1, 3, 4, 10, 11, 12, 13])]),
  (80, [(5, [0, 1, 5, 6, 7, 8, 9], [0, 1, 5, 6, 7, 8]), (11, [0, 1, 5, 6, 7, 8, 10], [4])]),
  (82, [(10, [0, 3, 4, 5], [2, 3])]),
  (89, [(3, [0, 4, 5], [0, 4]), (8, [4, 6, 7, 8], [4, 6])])]
def clsTab : List (Nat × List (Nat × Nat)) := [(3, [(3, 1)]),
  (8, [(1, 1)]),
  (9, [(4, 1)]),
  (11, [(14, 1)]),
  (13, [(3, 1)]),
  (14, [(3, 1)]),
  (31, [(1, 1)]),
  (33, [(1, 1)]),
  (60, [(1, 1)]),
  (61, [(1, 1)]),
  (74, [(7, 1), (8, 1), (9, 1), (10, 1), (17, 1), (18, 1), (23, 1)])]

def kpF (f id : Nat) : Option (List Nat × List Nat) := match lk kpTab f with | some l => lk l id | none => none
abbrev kpT : Cfg := ⟨kpF, xsT, xT⟩
def dcT (f id : Nat) : Nat := match lk clsTab f with | some l => (lk l id).getD 2 | none => 2
theorem dcOK : clsAll dcT 0 Tryd.prog.funcs.toList = true := by kernel_rfl
noncomputable abbrev PR := Tryd.prog
/-- A round of a loop. -/
noncomputable def roundL (H : List (FuncId × KF1)) (hk : List (Nat × (S → K (PX × S)))) (f id : Nat) (s : S) : K (PX × S) :=
  roundK (pexecK PR (runK PR kpT dcT H 60 60) (kpT f) hk (dcT f) 60 (loopOf PR f id)) (kpT f id) s
/-- A function's body. -/
noncomputable def bodyF (H : List (FuncId × KF1)) (hk : List (Nat × (S → K (PX × S)))) (f : Nat) (ps : List P) (R : List (Nat × En)) : K (P × List (Nat × En)) :=
  bodyK PR (runK PR kpT dcT H 60 60) kpT hk dcT 60 f ps R
/-- What a function does. -/
def FD (f : Nat) (h : KF1) : Prop := FOK PR kpT f h
def HD (H : List (FuncId × KF1)) : Prop := HOK PR kpT H
/-- What a function's loop does. -/
def LD (f id : Nat) (g : S → K (PX × S)) : Prop := ∀ s, KW (g s) (fun x => Ev fun a b => ploop (pexec PR (runF PR kpT a b) (kpT f) a (loopOf PR f id)) (kpT f id) a s = some x)
theorem HD.nil : HD [] := HOK.nil
theorem HD.cons {f : Nat} {h : KF1} {H : List (FuncId × KF1)} (hf : FD f h) (hH : HD H) : HD ((f, h) :: H) := HOK.cons hf hH
inductive LDs (f : Nat) : List (Nat × (S → K (PX × S))) → Prop
  | nil : LDs f []
  | cons {id : Nat} {g : S → K (PX × S)} {r : List (Nat × (S → K (PX × S)))} (h : LD f id g) (hr : LDs f r) : LDs f ((id, g) :: r)
theorem LDs.get {f : Nat} {hk : List (Nat × (S → K (PX × S)))} (h : LDs f hk) : ∀ id g, lk hk id = some g → LD f id g := by
  induction h with
  | nil => exact noLoops
  | cons h hr ih => exact oneLoop h ih
theorem FD.mk {H : List (FuncId × KF1)} {hk : List (Nat × (S → K (PX × S)))} {f : Nat} {h : KF1} (hu : uniq PR f = true) (hH : HD H) (hl : LDs f hk) (hb : ∀ ps R post, h ps R post → bodyF H hk f ps R post) : FD f h :=
  FOK.mk dcOK hH hu hl.get hb
/-- By rounds: 'g' tells what is done from a head. -/
theorem LD.mk {H : List (FuncId × KF1)} {hk : List (Nat × (S → K (PX × S)))} {f id : Nat} {g : S → K (PX × S)} (hu : uniq PR f = true) (hc : clsOK (dcT f) (loopOf PR f id) = true) (hH : HD H) (hl : LDs f hk)
    (I : S → Nat → S → Prop) (O : S → PX × S → Prop)
    (hr : ∀ a n s, I a n s → roundL H hk f id s (roundPost n (I a) (O a)))
    (hg : ∀ s post, g s post → ∃ n, I s n s ∧ ∀ x, O s x → post x) : LD f id (loopHook (kpT f id) g) := by
  refine loopHook_ok fun s0 post hp => ?_
  obtain ⟨n, h1, h2⟩ := hg s0 post hp
  obtain ⟨x, g1, g2⟩ := loop_ok (keep := kpT f id) (kp1 := kpT f) (O := O s0) dcOK hH hc (fun d hd h hh => by
    have := hl.get _ _ hh
    unfold LD at this
    rwa [loopOf_in hu hd] at this) (I := I s0) (hr s0) n s0 h1
  exact ⟨x, g2, h2 x g1⟩
/-- A told function. -/
theorem FD.ofX {f : Nat} {fn : Func} {h : KF1} (hfn : PR.funcs[f]? = some fn) (hx : memN f kpT.xs = true) (hb : ∀ ps R post, h ps R post → ∃ x, kpT.X f ps R = some x ∧ post x) : FD f h := FOK.ofX hfn hx hb
/-- A run, of what a function does. -/
theorem FD.run {f : Nat} {h : KF1} (hf : FD f h) {ps : List P} {R : List (Nat × En)} {y : P × List (Nat × En)} (hp : h ps R (fun x => x = y)) : ∃ lf k, runF PR kpT lf k f ps R = some y := by
  obtain ⟨x, h1, h2⟩ := hf ps R _ hp
  subst h2
  exact h1.some
end Pi
