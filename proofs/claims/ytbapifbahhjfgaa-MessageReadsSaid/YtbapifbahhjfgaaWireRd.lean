/- A reader in memory, and its steps: take, number, fail. -/
import Derived.Test.YtbapifbahhjfgaaWireEnc
import Derived.Deep.QuietTactic
import Derived.BigQuiet
import Derived.LaidEqlPtr
namespace Go.Proofs.Ytbapifbahhjfgaa
open Go.RowKit

/-- the reader's block: its text, its place, what went wrong first, and where -/
def RB (t : TypeId) (w : World) (g : Nat) (s : ByteArray) (a e b : Nat) : Prop :=
  w.heap[g]? = some (.cells #[.string s, .int .i64 a, .int .i64 e, .int .i64 b] t (0, 0))

section
variable {t : TypeId} {w w' : World} {g : Nat} {s : ByteArray} {a e b : Nat}
theorem RB.lt (h : RB t w g s a e b) : g < w.heap.size := lt_of_block h
theorem RB.cells (h : RB t w g s a e b) : w.cell? ⟨g, 0, none⟩ = some (.string s) ∧ w.cell? ⟨g, 1, none⟩ = some (.int .i64 a) ∧ w.cell? ⟨g, 2, none⟩ = some (.int .i64 e) ∧ w.cell? ⟨g, 3, none⟩ = some (.int .i64 b) := by
  unfold RB at h
  simp [World.cell?, h]
theorem RB.frozen (h : RB t w g s a e b) (i : Nat) : w.frozen? ⟨g, i, none⟩ = false := frozen_of_row w g i _ t h
theorem RB.drew (h : RB t w g s a e b) : RB t w.drew g s a e b := h
theorem RB.drewN (h : RB t w g s a e b) (n : Nat) : RB t (w.drewN n) g s a e b := h
theorem RB.set1 (h : RB t w g s a e b) (x : Nat) : RB t (w.setCell ⟨g, 1, none⟩ (.int .i64 x)) g s x e b := heap_setCell_same w g 1 _ t _ h
theorem RB.set2 (h : RB t w g s a e b) (x : Nat) : RB t (w.setCell ⟨g, 2, none⟩ (.int .i64 x)) g s a x b := heap_setCell_same w g 2 _ t _ h
theorem RB.set3 (h : RB t w g s a e b) (x : Nat) : RB t (w.setCell ⟨g, 3, none⟩ (.int .i64 x)) g s a e x := heap_setCell_same w g 3 _ t _ h
theorem RB.grown {row : Option Nat} (h : RB t w g s a e b) (hg : w.grownBy w' row) (hne : some g ≠ row) : RB t w' g s a e b := (hg.block g h.lt hne).trans h
theorem RB.below (h : RB t w g s a e b) (hb : Below w.heap.size w w') : RB t w' g s a e b := (hb.block g h.lt).trans h
theorem RB.alloc (h : RB t w g s a e b) (o : Obj) : RB t (w.alloc o) g s a e b := h.below ((Below.refl _ _).alloc (Nat.le_refl _) _)
end

/-- only block g, and what is new, has turned -/
theorem only_refl (w : World) (g : Nat) : w.grownBy w (some g) := ⟨rfl, rfl, rfl, Nat.le_refl _, fun _ _ _ => rfl⟩
theorem only_trans {a b c : World} {g : Nat} (h : a.grownBy b (some g)) (k : b.grownBy c (some g)) : a.grownBy c (some g) :=
  ⟨k.os.trans h.os, k.tape.trans h.tape, k.output.trans h.output, Nat.le_trans h.size k.size, fun i hi hn => (k.block i (Nat.lt_of_lt_of_le hi h.size) hn).trans (h.block i hi hn)⟩
theorem only_drewN {a w : World} {g : Nat} (h : a.grownBy w (some g)) (n : Nat) : a.grownBy (w.drewN n) (some g) := ⟨h.os, h.tape, h.output, h.size, h.block⟩
theorem only_set {a w : World} {g : Nat} (h : a.grownBy w (some g)) (i : Nat) (u : Value) : a.grownBy (w.setCell ⟨g, i, none⟩ u) (some g) :=
  ⟨h.os, h.tape, h.output, by simpa [World.setCell] using h.size, fun k hk hne => (Below.heap_setCell w ⟨g, i, none⟩ u k (by rintro rfl; exact hne rfl)).trans (h.block k hk hne)⟩
theorem only_alloc {a w : World} {g : Nat} (h : a.grownBy w (some g)) (o : Obj) : a.grownBy (w.alloc o) (some g) :=
  ⟨h.os, h.tape, h.output, Nat.le_trans h.size (by simp), fun i hi hne => (Below.heap_alloc w o i (Nat.lt_of_lt_of_le hi h.size)).trans (h.block i hi hne)⟩
theorem only_below {a b c : World} {g : Nat} (h : a.grownBy b (some g)) (k : Below b.heap.size b c) : a.grownBy c (some g) :=
  only_trans h ⟨k.os, k.tape, k.output, k.size, fun i hi _ => k.block i hi⟩
theorem below_only {a b : World} {g B : Nat} (h : a.grownBy b (some g)) (hB : B ≤ g) (hB2 : B ≤ a.heap.size) : Below B a b :=
  ⟨h.os, h.tape, h.output, h.size, fun k hk => h.block k (by omega) (by simp; omega)⟩

/-- where the reader in block g stands -/
def RS (t : TypeId) (w : World) (g : Nat) (s : ByteArray) : WM.St → Prop
  | .ok a => a ≤ s.size ∧ RB t w g s a 0 0
  | .bad e p => 1 ≤ e ∧ e ≤ 9 ∧ p ≤ s.size ∧ RB t w g s p e p

theorem RS.lt {t : TypeId} {w : World} {g : Nat} {s : ByteArray} {st : WM.St} (h : RS t w g s st) : g < w.heap.size := by
  cases st with
  | ok a => exact h.2.lt
  | bad e p => exact h.2.2.2.lt
theorem RS.below {t : TypeId} {w w' : World} {g : Nat} {s : ByteArray} {st : WM.St} (h : RS t w g s st) (hb : Below w.heap.size w w') : RS t w' g s st := by
  cases st with
  | ok a => exact ⟨h.1, h.2.below hb⟩
  | bad e p => exact ⟨h.1, h.2.1, h.2.2.1, h.2.2.2.below hb⟩
theorem RS.grown {t : TypeId} {w w' : World} {g : Nat} {s : ByteArray} {st : WM.St} (h : RS t w g s st) {row : Option Nat} (hb : w.grownBy w' row) (hne : some g ≠ row) : RS t w' g s st := by
  cases st with
  | ok a => exact ⟨h.1, h.2.grown hb hne⟩
  | bad e p => exact ⟨h.1, h.2.1, h.2.2.1, h.2.2.2.grown hb hne⟩

abbrev TR : TypeId := 83

set_option maxRecDepth 100000 in
set_option maxHeartbeats 1000000 in
theorem take_ok (g a k : Nat) (s : ByteArray) (w : World) (hr : RB TR w g s a 0 0) (hs : s.size ≤ 4611686018427387904) (hk : a + k ≤ s.size) :
    Calls Try.prog 44 #[.pointer (some ⟨g, 0, none⟩), .int .i64 k] w fun e w' =>
      e = .returned (.tuple #[.string (s.extract a (a + k)), .bool true]) ∧ RB TR w' g s (a + k) 0 0 ∧ w.grownBy w' (some g) := by
  obtain ⟨c0, c1, c2, c3⟩ := hr.cells
  have f1 := hr.frozen 1
  have H := Lib.hid hr; clear hr
  have e1 : IntKind.i64.wrap ((s.size : Int) - a) = (s.size : Int) - a := IntWalk.i64_in _ (by omega)
  have e2 : IntKind.i64.wrap ((a : Int) + k) = (a : Int) + k := IntWalk.i64_in _ (by omega)
  have e3 : decide ((s.size : Int) - a < k) = false := by simp; omega
  have e4 : (0 : Int) ≤ a := by omega
  have e5 : (a : Int) ≤ a + k := by omega
  have e6 : (a : Int) + k ≤ s.size := by omega
  have e7 : (0 : Int) ≤ (a : Int) + k := by omega
  have e8 : ((a : Int) + k).toNat = a + k := by omega
  go_enter Try.func44, Try.ntmps44
  go_wp2
  go_quiet (fail)
  go_wp2
  go_quiet (fail)
  go_wp2
  go_ret2
  rw [show ((a : Int) + k) = ((a + k : Nat) : Int) from by omega]
  exact ⟨rfl, (H.out.drewN _).set1 (a + k), only_set (only_drewN (only_refl _ _) _) _ _⟩

set_option maxRecDepth 100000 in
set_option maxHeartbeats 1000000 in
theorem take_short (g a k : Nat) (s : ByteArray) (w : World) (hr : RB TR w g s a 0 0) (hs : s.size ≤ 4611686018427387904) (ha : a ≤ s.size) (hk : s.size < a + k) :
    Calls Try.prog 44 #[.pointer (some ⟨g, 0, none⟩), .int .i64 k] w fun e w' =>
      e = .returned (.tuple #[.string ByteArray.empty, .bool false]) ∧ RB TR w' g s a 7 a ∧ w.grownBy w' (some g) := by
  obtain ⟨c0, c1, c2, c3⟩ := hr.cells
  have f2 := hr.frozen 2
  have f3 := hr.frozen 3
  have H := Lib.hid hr; clear hr
  have e1 : IntKind.i64.wrap ((s.size : Int) - a) = (s.size : Int) - a := IntWalk.i64_in _ (by omega)
  have e3 : decide ((s.size : Int) - a < k) = true := by simp; omega
  go_enter Try.func44, Try.ntmps44
  go_wp2
  go_quiet (fail)
  go_wp2
  go_ret2
  exact ⟨rfl, ((H.out.drewN _).set2 7).set3 a, only_set (only_set (only_drewN (only_refl _ _) _) _ _) _ _⟩

set_option maxRecDepth 100000 in
set_option maxHeartbeats 1000000 in
theorem take_bad (g a k e b : Nat) (s : ByteArray) (w : World) (hr : RB TR w g s a e b) (he : 1 ≤ e) :
    Calls Try.prog 44 #[.pointer (some ⟨g, 0, none⟩), .int .i64 k] w fun e w' =>
      e = .returned (.tuple #[.string ByteArray.empty, .bool false]) ∧ w = w' := by
  obtain ⟨c0, c1, c2, c3⟩ := hr.cells
  have e3 : ((e : Int) != 0) = true := by rw [bne_iff_ne]; omega
  clear hr
  go_enter Try.func44, Try.ntmps44
  go_wp2
  go_ret2
  exact ⟨rfl, rfl⟩

set_option maxHeartbeats 1000000 in
theorem take_nil (k : Int) (w : World) :
    Calls Try.prog 44 #[.pointer none, .int .i64 k] w fun e w' =>
      e = .returned (.tuple #[.string ByteArray.empty, .bool false]) ∧ w = w' := by
  go_enter Try.func44, Try.ntmps44
  go_wp2
  go_ret2
  exact ⟨rfl, rfl⟩

end Go.Proofs.Ytbapifbahhjfgaa
