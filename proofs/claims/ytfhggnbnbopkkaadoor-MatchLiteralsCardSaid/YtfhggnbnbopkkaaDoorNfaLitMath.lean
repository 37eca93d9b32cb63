/- What literals, a star and a question mark fit: plain. -/
import Derived.Test.YtfhggnbnbopkkaaDoorNfaWays
namespace Go.Proofs.YtfhggnbnbopkkaaDoor.PM

theorem tree_star : tree 2 [42] = .ok (over 5 every) := by rfl
theorem tree_quest : tree 2 [63] = .ok every := by rfl
theorem fits_star (s : List UInt8) : fitsB (over 5 every) s = true := (fitsB_iff (T.OK.wf (tree_ok tree_star).1) s).2 (L_any s)
theorem fits_quest (s : List UInt8) : fitsB every s = decide (s.length = 1) := by
  rw [Bool.eq_iff_iff, fitsB_iff (T.OK.wf (tree_ok tree_quest).1) s, L_every, decide_eq_true_eq]
theorem tree_long {s : List UInt8} (h : 64 < s.length) (t : T) : tree 1 s ≠ .ok t := by
  intro e
  unfold tree at e
  rw [if_neg (by omega), if_pos h] at e
  cases e
theorem tree_short {s : List UInt8} (h : s.length ≤ 64) : tree 1 s = .ok (joined 3 (s.map fun c => one c.toNat)) := by
  unfold tree
  rw [if_neg (by omega), if_neg (by omega), if_pos rfl]
theorem fits_lit {s : List UInt8} (h : s.length ≤ 64) (w : List UInt8) : fitsB (joined 3 (s.map fun c => one c.toNat)) w = decide (w = s) := by
  rw [Bool.eq_iff_iff, fitsB_iff (T.OK.wf (tree_ok (tree_short h)).1) w, decide_eq_true_eq]
  exact L_lits s w
end Go.Proofs.YtfhggnbnbopkkaaDoor.PM
