/- message.Above: which fence is above. -/
import Derived.Test.YtbapifbahhjfgaaMsgWorks
namespace Go.Proofs.Ytbapifbahhjfgaa
open Go.RowKit

/-- a fence -/
def fence (x : Int × Int) : Value := .agg #[.int .i64 x.1, .int .i64 x.2]
def above (a b : Int × Int) : Bool := decide (b.1 < a.1) || (decide (a.1 = b.1) && decide (b.2 < a.2))

set_option maxRecDepth 100000 in
set_option maxHeartbeats 4000000 in
theorem above_any (a b : Int × Int) (w : World) :
    Calls Try.prog 16 #[fence a, fence b] w fun e w' => e = .returned (.bool (above a b)) ∧ Below w.heap.size w w' := by
  obtain ⟨a1, a2⟩ := a
  obtain ⟨b1, b2⟩ := b
  have HB := Lib.hid (((Below.refl _ w).alloc (Nat.le_refl _) (.cells #[.int .i64 a1, .int .i64 a2] 25)).alloc (by simp) (.cells #[.int .i64 b1, .int .i64 b2] 25))
  have hx : above (a1, a2) (b1, b2) = (decide (b1 < a1) || (decide (a1 = b1) && decide (b2 < a2))) := rfl
  rw [hx]
  clear hx
  simp only [fence]
  by_cases h1 : b1 < a1
  · have e1 : decide (b1 < a1) = true := by simpa using h1
    rw [e1, Bool.true_or]
    go_enter Try.func16, Try.ntmps16
    go_wp2
    go_ret
    exact ⟨rfl, HB.out⟩
  · have e1 : decide (b1 < a1) = false := by simpa using h1
    rw [e1, Bool.false_or]
    by_cases h2 : a1 = b1
    · have e2 : decide (a1 = b1) = true := by simpa using h2
      rw [e2, Bool.true_and]
      subst h2
      go_enter Try.func16, Try.ntmps16
      go_wp2
      go_ret
      exact ⟨rfl, HB.out⟩
    · have e2 : decide (a1 = b1) = false := by simpa using h2
      rw [e2, Bool.false_and]
      go_enter Try.func16, Try.ntmps16
      go_wp2
      go_ret
      exact ⟨rfl, HB.out⟩

end Go.Proofs.Ytbapifbahhjfgaa
