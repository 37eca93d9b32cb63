/- The greatest pattern, and one with a set without bytes: plain. -/
import Derived.Test.YtpiflikblpfgoaaDoorNfaWays
import Derived.WalkKit
namespace Go.Proofs.YtpiflikblpfgoaaDoor.PM

theorem L_times (n : Nat) : ∀ w, L (.mk 3 noSet (List.replicate n every)) w ↔ w.length = n := by
  induction n with
  | zero => intro w; rw [List.replicate_zero, L_catNil]; simp
  | succ n ih =>
    intro w
    rw [List.replicate_succ, L_catCons]
    constructor
    · rintro ⟨u, v, rfl, h1, h2⟩
      rw [L_every] at h1; rw [ih] at h2
      simp; omega
    · intro h
      cases w with
      | nil => simp at h
      | cons c w => exact ⟨[c], w, rfl, (L_every [c]).2 rfl, (ih w).2 (by simpa using h)⟩
def tNames : T := joined 3 (List.replicate 64 every)
set_option maxRecDepth 100000 in
theorem tree_names : tree 3 (List.replicate 64 46) = .ok tNames := by kernel_rfl
theorem fits_names (w : List UInt8) : fitsB tNames w = decide (w.length = 64) := by
  rw [Bool.eq_iff_iff, fitsB_iff (T.OK.wf (tree_ok tree_names).1) w, decide_eq_true_eq]
  exact (L_joined3 _ w).trans (L_times 64 w)
theorem tree_more {s : List UInt8} (h : 64 < s.length) (t : T) : tree 3 s ≠ .ok t := by
  intro e
  unfold tree at e
  rw [if_neg (by omega), if_pos h] at e
  cases e
theorem tree_gap : ∃ t, tree 3 [91, 94, 0, 45, 255, 93, 124, 97] = .ok t ∧ fitsB t [97] = true ∧ fitsB t [98] = false := ⟨_, rfl, by rfl, by rfl⟩
end Go.Proofs.YtpiflikblpfgoaaDoor.PM
