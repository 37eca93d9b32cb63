/- The reader is made; what is left, what went wrong, the end. -/
import Derived.Test.YtcgojpdgcoddnaaWireRd2
namespace Go.Proofs.Ytcgojpdgcoddnaa
open Go.RowKit

set_option maxRecDepth 100000 in
set_option maxHeartbeats 1000000 in
theorem new_any (s : ByteArray) (w : World) (B : Nat) (hB : B ≤ w.heap.size) :
    Calls Try.prog 22 #[.string s] w fun e w' => ∃ g, e = .returned (.pointer (some ⟨g, 0, none⟩)) ∧ B ≤ g ∧ RS TR w' g s (.ok 0) ∧ Below w.heap.size w w' := by
  go_enter Try.func22, Try.ntmps22
  go_wp2
  go_ret
  exact ⟨w.heap.size, rfl, hB, ⟨by omega, heap_alloc_new w _⟩, (Below.refl _ _).alloc (Nat.le_refl _) _⟩

/-- what is left of the bytes -/
def restOf (s : ByteArray) : WM.St → ByteArray
  | .ok a => s.extract a s.size
  | .bad _ _ => ByteArray.empty

theorem cell_alloc (w : World) (o : Obj) (a : Addr) (v : Value) (h : w.cell? a = some v) : (w.alloc o).cell? a = some v :=
  (World.cell?_of_block (heap_alloc_old w o (World.block_lt_of_cell? w a h))).trans h

abbrev TSp : TypeId := 58

theorem ret_spot (w : World) (x y : Int) (tmps : Array Value) (fn : Func) (hf : fn.results = #[.cell 2 TSp]) (hp : tmps.getD 2 undef = .pointer (some ⟨w.heap.size, 0, none⟩)) :
    (results fn tmps).run Try.prog (w.alloc (.cells #[.int .i64 x, .int .i64 y] TSp)) = .ok (.agg #[.int .i64 x, .int .i64 y]) (w.alloc (.cells #[.int .i64 x, .int .i64 y] TSp)) :=
  results_cell_row hf _ _ w.heap.size TSp #[.int .i64 x, .int .i64 y] (0, 0) _ hp (heap_alloc_new w _) Try.underlying58 rfl rfl

theorem ret_spotD (w : World) (x y x0 y0 : Int) (n : Nat) (tmps : Array Value) (fn : Func) (hf : fn.results = #[.cell 2 TSp]) (hp : tmps.getD 2 undef = .pointer (some ⟨w.heap.size, 0, none⟩)) :
    (results fn tmps).run Try.prog ((((w.alloc (.cells #[.int .i64 x0, .int .i64 y0] TSp)).drewN n).setCell ⟨w.heap.size, 0, none⟩ (.int .i64 x)).setCell ⟨w.heap.size, 1, none⟩ (.int .i64 y)) =
      .ok (.agg #[.int .i64 x, .int .i64 y]) ((((w.alloc (.cells #[.int .i64 x0, .int .i64 y0] TSp)).drewN n).setCell ⟨w.heap.size, 0, none⟩ (.int .i64 x)).setCell ⟨w.heap.size, 1, none⟩ (.int .i64 y)) :=
  results_cell_row hf _ _ w.heap.size TSp #[.int .i64 x, .int .i64 y] (0, 0) _ hp (heap_setCell_same _ w.heap.size 1 #[.int .i64 x, .int .i64 y0] TSp _ (heap_setCell_same ((w.alloc (.cells #[.int .i64 x0, .int .i64 y0] TSp)).drewN n) w.heap.size 0 #[.int .i64 x0, .int .i64 y0] TSp _ (heap_alloc_new w _))) Try.underlying58 rfl rfl

theorem below_drawn {B : Nat} {a w : World} (h : Below B a w) (n : Nat) : Below B a (w.drewN n) := ⟨h.os, h.tape, h.output, h.size, h.block⟩
theorem below_spot (w : World) (o : Obj) (n : Nat) (x y : Value) : Below w.heap.size w ((((w.alloc o).drewN n).setCell ⟨w.heap.size, 0, none⟩ x).setCell ⟨w.heap.size, 1, none⟩ y) :=
  ((below_drawn ((Below.refl _ _).alloc (Nat.le_refl _) _) n).setCell (Nat.le_refl _) x).setCell (Nat.le_refl _) y
theorem below_new (w : World) (o : Obj) : Below w.heap.size w (w.alloc o) := (Below.refl _ _).alloc (Nat.le_refl _) _

/-- what went wrong first, and where -/
def faultOf : WM.St → Nat × Nat
  | .ok _ => (0, 0)
  | .bad e p => (e, p)

/-- the end: a fault, or bytes that are left -/
def endOf (s : ByteArray) : WM.St → Nat × Nat
  | .ok a => if a < s.size then (7, a) else (0, 0)
  | .bad e p => (e, p)

end Go.Proofs.Ytcgojpdgcoddnaa
