/- The seat's tables. -/
import Derived.Test.YtidkdllppldopaaPiLem
import Derived.KernelRfl
import Derived.Test.YtidkdllppldopaaProg
namespace Pi
open Go Go.Proofs
set_option maxRecDepth 100000
def kpTab : List (Nat × List (Nat × List Nat × List Nat)) := [(3, [(9, [0, 3, 4, 6, 7], [2, 3, 4, 6])]),
  (4, [(9, [1, 5, 6, 8, 10], [4, 5, 6, 8])]),
  (6, [(8, [0, 3, 4, 5, 6], [2, 3])]),
  (7, [(8, [0, 1, 5, 6, 7, 8], [4, 5])]),
  (8, [(11, [0, 2, 7, 8, 10, 11], [0, 2, 7, 8, 10]), (20, [0, 2, 7, 8, 12, 13, 14, 15, 16], [6, 7, 12, 15])]),
  (9, [(13, [0, 1, 7, 8, 10, 12, 13, 14, 15], [0, 1, 6, 7, 13, 14])]),
  (26, [(8, [0, 1, 2, 3, 10], [10]), (13, [10, 60, 61], [10])]),
  (27, [(10, [0, 1, 2, 3, 10, 11, 12], [11])]),
  (28, [(4, [0, 1, 5], [4])]),
  (31, [(10, [0, 3, 7, 8], [0, 3, 4, 5, 6, 7]), (21, [0, 3, 7, 9, 10], [0, 3, 7, 9]), (29, [0, 3, 7, 9, 11, 12], [0, 3, 7, 11])]),
  (34, [(12, [0, 1, 5, 39, 40, 41], [0, 1, 5]), (22, [1, 8, 63, 64, 65], [8])]),
  (36, [(2, [0, 3, 5], [0, 4])]),
  (37, [(2, [0, 3, 5], [0, 4])])]
def clsTab : List (Nat × List (Nat × Nat)) := [(3, [(16, 1)]),
  (4, [(24, 1), (27, 1), (15, 1)]),
  (6, [(14, 1)]),
  (7, [(14, 1), (17, 1)]),
  (31, [(16, 1), (23, 1), (33, 1)]),
  (33, [(4, 0)]),
  (40, [(3, 1)]),
  (42, [(1, 1)]),
  (44, [(0, 1)])]

def kpT (f id : Nat) : Option (List Nat × List Nat) := match lk kpTab f with | some l => lk l id | none => none
def dcT (f id : Nat) : Nat := match lk clsTab f with | some l => (lk l id).getD 2 | none => 2
theorem dcOK : clsAll dcT 0 Try.prog.funcs.toList = true := by kernel_rfl
noncomputable abbrev PR := Try.prog
/-- A round of a loop. -/
noncomputable def roundL (H : List (FuncId × KF1)) (hk : List (Nat × (S → K (PX × S)))) (f id : Nat) (s : S) : K (PX × S) :=
  roundK (pexecK PR (runK PR kpT dcT H 60 60) (kpT f) hk (dcT f) 60 (loopOf PR f id)) (kpT f id) s
/-- A function's body. -/
noncomputable def bodyF (H : List (FuncId × KF1)) (hk : List (Nat × (S → K (PX × S)))) (f : Nat) (ps : List P) (R : List (Nat × En)) : K (P × List (Nat × En)) :=
  bodyK PR (runK PR kpT dcT H 60 60) kpT hk dcT 60 f ps R
/-- What a function does. -/
def FD (f : Nat) (h : KF1) : Prop := FOK PR kpT f h
def HD (H : List (FuncId × KF1)) : Prop := HOK PR kpT H
/-- What a function's loop does. -/
def LD (f id : Nat) (g : S → K (PX × S)) : Prop := ∀ s, KW (g s) (fun x => Ev fun a b => ploop (pexec PR (runF PR kpT a b) (kpT f) a (loopOf PR f id)) (kpT f id) a s = some x)
theorem HD.nil : HD [] := HOK.nil
theorem HD.cons {f : Nat} {h : KF1} {H : List (FuncId × KF1)} (hf : FD f h) (hH : HD H) : HD ((f, h) :: H) := HOK.cons hf hH
inductive LDs (f : Nat) : List (Nat × (S → K (PX × S))) → Prop
  | nil : LDs f []
  | cons {id : Nat} {g : S → K (PX × S)} {r : List (Nat × (S → K (PX × S)))} (h : LD f id g) (hr : LDs f r) : LDs f ((id, g) :: r)
theorem LDs.get {f : Nat} {hk : List (Nat × (S → K (PX × S)))} (h : LDs f hk) : ∀ id g, lk hk id = some g → LD f id g := by
  induction h with
  | nil => exact noLoops
  | cons h hr ih => exact oneLoop h ih
theorem FD.mk {H : List (FuncId × KF1)} {hk : List (Nat × (S → K (PX × S)))} {f : Nat} {h : KF1} (hu : uniq PR f = true) (hH : HD H) (hl : LDs f hk) (hb : ∀ ps R post, h ps R post → bodyF H hk f ps R post) : FD f h :=
  FOK.mk dcOK hH hu hl.get hb
/-- By rounds: 'g' tells what is done from a head. -/
theorem LD.mk {H : List (FuncId × KF1)} {hk : List (Nat × (S → K (PX × S)))} {f id : Nat} {g : S → K (PX × S)} (hu : uniq PR f = true) (hc : clsOK (dcT f) (loopOf PR f id) = true) (hH : HD H) (hl : LDs f hk)
    (I : S → Nat → S → Prop) (O : S → PX × S → Prop)
    (hr : ∀ a n s, I a n s → roundL H hk f id s (roundPost n (I a) (O a)))
    (hg : ∀ s post, g s post → ∃ n, I s n s ∧ ∀ x, O s x → post x) : LD f id (loopHook (kpT f id) g) := by
  refine loopHook_ok fun s0 post hp => ?_
  obtain ⟨n, h1, h2⟩ := hg s0 post hp
  obtain ⟨x, g1, g2⟩ := loop_ok (keep := kpT f id) (kp1 := kpT f) (O := O s0) dcOK hH hc (fun d hd h hh => by
    have := hl.get _ _ hh
    unfold LD at this
    rwa [loopOf_in hu hd] at this) (I := I s0) (hr s0) n s0 h1
  exact ⟨x, g2, h2 x g1⟩
/-- A run, of what a function does. -/
theorem FD.run {f : Nat} {h : KF1} (hf : FD f h) {ps : List P} {R : List (Nat × En)} {y : P × List (Nat × En)} (hp : h ps R (fun x => x = y)) : ∃ lf k, runF PR kpT lf k f ps R = some y := by
  obtain ⟨x, h1, h2⟩ := hf ps R _ hp
  subst h2
  exact h1.some
end Pi
