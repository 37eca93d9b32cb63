/- A number read: what its state tells. -/
import Derived.Test.YtbapifbahhjfgaaWireRd3
namespace Go.Proofs.Ytbapifbahhjfgaa
open Go.RowKit

theorem only_own {a b c : World} {g : Nat} {row : Option Nat} (h : a.grownBy b (some g)) (k : b.grownBy c row) (hr : ∀ i, row = some i → a.heap.size ≤ i) : a.grownBy c (some g) :=
  ⟨k.os.trans h.os, k.tape.trans h.tape, k.output.trans h.output, Nat.le_trans h.size k.size, fun i hi hn => (k.block i (Nat.lt_of_lt_of_le hi h.size) (fun e => by have := hr i e.symm; omega)).trans (h.block i hi hn)⟩

theorem num_bad {l : List UInt8} {k : Nat} {st : WM.St} {n e p : Nat} (h : WM.num l k st = (n, .bad e p)) : n = 0 := by
  cases st with
  | ok a =>
    simp only [WM.num] at h
    split at h <;> simp at h
    exact h.1.symm
  | bad e p => simp only [WM.num, Prod.mk.injEq] at h; exact h.1.symm
theorem num_ok {l : List UInt8} {k : Nat} {st : WM.St} {n b : Nat} (h : WM.num l k st = (n, .ok b)) : ∃ a, st = .ok a := by
  cases st with
  | ok a => exact ⟨a, rfl⟩
  | bad e p => simp [WM.num] at h
end Go.Proofs.Ytbapifbahhjfgaa
