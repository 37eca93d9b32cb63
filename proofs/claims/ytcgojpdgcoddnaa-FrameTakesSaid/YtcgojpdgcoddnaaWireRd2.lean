/- The reader's Bool and Text, at every state. -/
import Derived.Test.YtcgojpdgcoddnaaWireNum
namespace Go.Proofs.Ytcgojpdgcoddnaa
open Go.RowKit

theorem ret_b {a b : Bool} (h : a = b) : Ending.returned (.bool a) = .returned (.bool b) := by rw [h]

theorem RS.cell1 {t : TypeId} {w : World} {g : Nat} {s : ByteArray} {st : WM.St} (h : RS t w g s st) : ∃ a : Nat, a ≤ s.size ∧ w.cell? ⟨g, 1, none⟩ = some (.int .i64 a) := by
  cases st with
  | ok a => exact ⟨a, h.1, h.2.cells.2.1⟩
  | bad e p => exact ⟨p, h.2.2.1, h.2.2.2.cells.2.1⟩

theorem num_ok_short {l : List UInt8} {k a : Nat} (h : l.length < a + k) (ha : a ≤ l.length) : WM.num l k (.ok a) = (0, .bad 7 a) := by
  simp only [WM.num]; rw [if_pos (by omega)]
theorem num_ok_long {l : List UInt8} {k a : Nat} (h : a + k ≤ l.length) : WM.num l k (.ok a) = (WM.val ((l.drop a).take k), .ok (a + k)) := by
  simp only [WM.num]; rw [if_neg (by omega)]

end Go.Proofs.Ytcgojpdgcoddnaa
