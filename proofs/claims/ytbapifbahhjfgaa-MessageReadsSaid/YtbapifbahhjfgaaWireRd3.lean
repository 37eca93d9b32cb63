/- The reader is made; what is left, what went wrong, the end. -/
import Derived.Test.YtbapifbahhjfgaaWireRd2
namespace Go.Proofs.Ytbapifbahhjfgaa
open Go.RowKit

set_option maxRecDepth 100000 in
set_option maxHeartbeats 1000000 in
theorem new_any (s : ByteArray) (w : World) (B : Nat) (hB : B ≤ w.heap.size) :
    Calls Try.prog 20 #[.string s] w fun e w' => ∃ g, e = .returned (.pointer (some ⟨g, 0, none⟩)) ∧ B ≤ g ∧ RS TR w' g s (.ok 0) ∧ Below w.heap.size w w' := by
  go_enter Try.func20, Try.ntmps20
  go_wp2
  go_ret
  exact ⟨w.heap.size, rfl, hB, ⟨by omega, heap_alloc_new w _⟩, (Below.refl _ _).alloc (Nat.le_refl _) _⟩

/-- what is left of the bytes -/
def restOf (s : ByteArray) : WM.St → ByteArray
  | .ok a => s.extract a s.size
  | .bad _ _ => ByteArray.empty

theorem cell_alloc (w : World) (o : Obj) (a : Addr) (v : Value) (h : w.cell? a = some v) : (w.alloc o).cell? a = some v :=
  (World.cell?_of_block (heap_alloc_old w o (World.block_lt_of_cell? w a h))).trans h

abbrev TSp : TypeId := 30

theorem ret_spot (w : World) (x y : Int) (tmps : Array Value) (fn : Func) (hf : fn.results = #[.cell 2 TSp]) (hp : tmps.getD 2 undef = .pointer (some ⟨w.heap.size, 0, none⟩)) :
    (results fn tmps).run Try.prog (w.alloc (.cells #[.int .i64 x, .int .i64 y] TSp)) = .ok (.agg #[.int .i64 x, .int .i64 y]) (w.alloc (.cells #[.int .i64 x, .int .i64 y] TSp)) :=
  results_cell_row hf _ _ w.heap.size TSp #[.int .i64 x, .int .i64 y] (0, 0) _ hp (heap_alloc_new w _) Try.underlying30 rfl rfl

theorem ret_spotD (w : World) (x y x0 y0 : Int) (n : Nat) (tmps : Array Value) (fn : Func) (hf : fn.results = #[.cell 2 TSp]) (hp : tmps.getD 2 undef = .pointer (some ⟨w.heap.size, 0, none⟩)) :
    (results fn tmps).run Try.prog ((((w.alloc (.cells #[.int .i64 x0, .int .i64 y0] TSp)).drewN n).setCell ⟨w.heap.size, 0, none⟩ (.int .i64 x)).setCell ⟨w.heap.size, 1, none⟩ (.int .i64 y)) =
      .ok (.agg #[.int .i64 x, .int .i64 y]) ((((w.alloc (.cells #[.int .i64 x0, .int .i64 y0] TSp)).drewN n).setCell ⟨w.heap.size, 0, none⟩ (.int .i64 x)).setCell ⟨w.heap.size, 1, none⟩ (.int .i64 y)) :=
  results_cell_row hf _ _ w.heap.size TSp #[.int .i64 x, .int .i64 y] (0, 0) _ hp (heap_setCell_same _ w.heap.size 1 #[.int .i64 x, .int .i64 y0] TSp _ (heap_setCell_same ((w.alloc (.cells #[.int .i64 x0, .int .i64 y0] TSp)).drewN n) w.heap.size 0 #[.int .i64 x0, .int .i64 y0] TSp _ (heap_alloc_new w _))) Try.underlying30 rfl rfl

theorem below_drawn {B : Nat} {a w : World} (h : Below B a w) (n : Nat) : Below B a (w.drewN n) := ⟨h.os, h.tape, h.output, h.size, h.block⟩
theorem below_spot (w : World) (o : Obj) (n : Nat) (x y : Value) : Below w.heap.size w ((((w.alloc o).drewN n).setCell ⟨w.heap.size, 0, none⟩ x).setCell ⟨w.heap.size, 1, none⟩ y) :=
  ((below_drawn ((Below.refl _ _).alloc (Nat.le_refl _) _) n).setCell (Nat.le_refl _) x).setCell (Nat.le_refl _) y
theorem below_new (w : World) (o : Obj) : Below w.heap.size w (w.alloc o) := (Below.refl _ _).alloc (Nat.le_refl _) _

/-- what went wrong first, and where -/
def faultOf : WM.St → Nat × Nat
  | .ok _ => (0, 0)
  | .bad e p => (e, p)

/-- the end: a fault, or bytes that are left -/
def endOf (s : ByteArray) : WM.St → Nat × Nat
  | .ok a => if a < s.size then (7, a) else (0, 0)
  | .bad e p => (e, p)

set_option maxRecDepth 100000 in
set_option maxHeartbeats 2000000 in
theorem rdEnd_any (g : Nat) (s : ByteArray) (st : WM.St) (w : World) (hr : RS TR w g s st) (hs : s.size ≤ 4611686018427387904) :
    Calls Try.prog 27 #[.pointer (some ⟨g, 0, none⟩)] w fun e' w' =>
      e' = .returned (.agg #[.int .i64 (endOf s st).1, .int .i64 (endOf s st).2]) ∧ Below w.heap.size w w' := by
  cases st with
  | bad e p =>
    obtain ⟨h1, h2, hp, hr⟩ := hr
    obtain ⟨c0, c1, c2, c3⟩ := hr.cells
    have d2 := fun o => cell_alloc w o _ _ c2
    have d3 := fun o => cell_alloc w o _ _ c3
    have e3 : ((e : Int) != 0) = true := by rw [bne_iff_ne]; omega
    clear hr
    go_enter Try.func27, Try.ntmps27
    go_wp2
    exact bodyPost_ret (ret_spot w e p _ _ rfl rfl) rfl ⟨rfl, below_new _ _⟩
  | ok a =>
    obtain ⟨ha, hr⟩ := hr
    obtain ⟨c0, c1, c2, c3⟩ := hr.cells
    have d0 := fun o => cell_alloc w o _ _ c0
    have d1 := fun o => cell_alloc w o _ _ c1
    have d2 := fun o => cell_alloc w o _ _ c2
    have d3 := fun o => cell_alloc w o _ _ c3
    clear hr
    by_cases hlt : a < s.size
    · have e1 : decide ((a : Int) < s.size) = true := by simp; omega
      have hx : endOf s (.ok a) = (7, a) := by simp [endOf, hlt]
      rw [hx]; clear hx
      go_enter Try.func27, Try.ntmps27
      go_wp2
      go_quiet (fail)
      go_wp2
      exact bodyPost_ret (ret_spotD w 7 a 0 0 _ _ _ rfl rfl) rfl ⟨rfl, below_spot _ _ _ _ _⟩
    · have e1 : decide ((a : Int) < s.size) = false := by simp; omega
      have hx : endOf s (.ok a) = (0, 0) := by simp [endOf, hlt]
      rw [hx]; clear hx
      go_enter Try.func27, Try.ntmps27
      go_wp2
      go_quiet (fail)
      go_wp2
      exact bodyPost_ret (ret_spotD w 0 0 0 0 _ _ _ rfl rfl) rfl ⟨rfl, below_spot _ _ _ _ _⟩

set_option maxHeartbeats 1000000 in
theorem rdEnd_nil (w : World) :
    Calls Try.prog 27 #[.pointer none] w fun e' w' =>
      e' = .returned (.agg #[.int .i64 1, .int .i64 0]) ∧ Below w.heap.size w w' := by
  go_enter Try.func27, Try.ntmps27
  go_wp2
  exact bodyPost_ret (ret_spot w 1 0 _ _ rfl rfl) rfl ⟨rfl, below_new _ _⟩

end Go.Proofs.Ytbapifbahhjfgaa
