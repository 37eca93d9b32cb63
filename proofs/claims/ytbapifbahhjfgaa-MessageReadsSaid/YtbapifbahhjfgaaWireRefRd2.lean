/- The document's reader: Texts, Rest, End. -/
import Derived.Test.YtbapifbahhjfgaaWireRefRd
namespace Go.Proofs.Ytbapifbahhjfgaa
open Go.RowKit

set_option maxRecDepth 100000 in
set_option maxHeartbeats 2000000 in
theorem refRdEnd_any (g : Nat) (s : ByteArray) (st : WM.St) (w : World) (hr : RQ w g s st) :
    Calls Try.prog 32 #[.pointer (some ⟨g, 0, none⟩)] w fun e' w' =>
      e' = .returned (.tuple #[.int .i64 (endOf s st).1, .int .i64 (endOf s st).2]) ∧ Below w.heap.size w w' := by
  cases st with
  | bad e p =>
    obtain ⟨h1, h2, hp, a, h4, hr⟩ := hr
    obtain ⟨c0, c1, c2, c3⟩ := hr.cells
    have e3 : ((e : Int) == 0) = false := by rw [beq_eq_false_iff_ne]; omega
    clear hr
    go_enter Try.func32, Try.ntmps32
    go_wp2
    go_quiet (fail)
    go_wp2
    go_quiet (fail)
    go_wp2
    go_ret2
    exact ⟨rfl, ⟨rfl, rfl, rfl, Nat.le_refl _, fun _ _ => rfl⟩⟩
  | ok a =>
    obtain ⟨ha, hr⟩ := hr
    obtain ⟨c0, c1, c2, c3⟩ := hr.cells
    clear hr
    by_cases hlt : a < s.size
    · have e1 : decide ((a : Int) < s.size) = true := by simp; omega
      have hx : endOf s (.ok a) = (7, a) := by simp [endOf, hlt]
      rw [hx]; clear hx
      go_enter Try.func32, Try.ntmps32
      go_wp2
      go_quiet (fail)
      go_wp2
      go_quiet (fail)
      go_wp2
      go_ret2
      exact ⟨rfl, ⟨rfl, rfl, rfl, Nat.le_refl _, fun _ _ => rfl⟩⟩
    · have e1 : decide ((a : Int) < s.size) = false := by simp; omega
      have hx : endOf s (.ok a) = (0, 0) := by simp [endOf, hlt]
      rw [hx]; clear hx
      go_enter Try.func32, Try.ntmps32
      go_wp2
      go_quiet (fail)
      go_wp2
      go_quiet (fail)
      go_wp2
      go_ret2
      exact ⟨rfl, ⟨rfl, rfl, rfl, Nat.le_refl _, fun _ _ => rfl⟩⟩

end Go.Proofs.Ytbapifbahhjfgaa
