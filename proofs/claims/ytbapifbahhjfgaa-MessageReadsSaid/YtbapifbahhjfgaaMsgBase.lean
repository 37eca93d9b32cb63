/- Messages: what lies in memory; the places of a message's numbers. -/
import Derived.Test.YtbapifbahhjfgaaWireRd3
import Derived.Test.YtbapifbahhjfgaaWireEnc2
import Derived.Test.YtbapifbahhjfgaaWireTexts
import Derived.Deep.QuietTactic
import Derived.BigQuiet
import Derived.StillTailTactics
import Derived.Laws.Rows
namespace Go.Proofs.Ytbapifbahhjfgaa
open Go.RowKit

theorem below_then {B : Nat} {w a b : World} (h : Below B w a) (hg : Below a.heap.size a b) (hB : B ≤ w.heap.size) : Below B w b := h.trans (hg.mono (Nat.le_trans hB h.size))
theorem grown_below {w w' : World} (hb : Below w.heap.size w w') : w.grownBy w' none := ⟨hb.os, hb.tape, hb.output, hb.size, fun k hk _ => hb.block k hk⟩
theorem ownsRow_below {w w' : World} {base : Nat} {e : TypeId} {size : Nat} {v : Value} {n : Nat} {xs : List Value} (h : w.ownsRow base e size v n xs) (hb : Below w.heap.size w w') : w'.ownsRow base e size v n xs :=
  h.kept (grown_below hb) (Classical.em _)
theorem toList_inj {a b : ByteArray} (h : a.toList = b.toList) : a = b := by
  have h2 : a.data.toList = b.data.toList := by rw [← ByteArray.toList_eq a, ← ByteArray.toList_eq b]; exact h
  exact ByteArray.ext (Array.ext' h2)
theorem str_ne {a b : ByteArray} (h : ¬ a = b) : (a.toList == b.toList) = false := by rw [beq_eq_false_iff_ne]; exact fun h2 => h (toList_inj h2)
theorem str_eq {a b : ByteArray} (h : a = b) : (a.toList == b.toList) = true := by rw [h]; simp

/-- a message -/
structure Msg where
  kind : Nat
  n : Nat → Int
  good : Bool
  op : Nat
  err : Int
  leader : Int
  data : ByteArray
  ents : List (Int × ByteArray)

abbrev TM : TypeId := 28
abbrev TE : TypeId := 48

/-- a message's cells, its entries' slice given -/
def Msg.cells (m : Msg) (A : Value) : List Value :=
  [.int .u8 m.kind, .int .i64 (m.n 0), .int .i64 (m.n 1), .int .i64 (m.n 2), .int .i64 (m.n 3), .int .i64 (m.n 4), .int .i64 (m.n 5), .int .i64 (m.n 6), .bool m.good, A,
   .int .i64 (m.n 7), .int .i64 (m.n 8), .string m.data, .int .i64 (m.n 9), .int .i64 (m.n 10), .int .i64 (m.n 11), .int .i64 (m.n 12), .int .i64 (m.n 13), .int .i64 (m.n 14),
   .int .u8 m.op, .int .i64 m.err, .int .i64 m.leader]

/-- where the numbers lie -/
def offs : List Nat := [1, 2, 3, 4, 5, 6, 7, 10, 11, 13, 14, 15, 16, 17, 18]
def ptrs (g : Nat) : Array Value := #[.pointer (some ⟨g, 1, none⟩), .pointer (some ⟨g, 2, none⟩), .pointer (some ⟨g, 3, none⟩), .pointer (some ⟨g, 4, none⟩), .pointer (some ⟨g, 5, none⟩), .pointer (some ⟨g, 6, none⟩), .pointer (some ⟨g, 7, none⟩),
  .pointer (some ⟨g, 10, none⟩), .pointer (some ⟨g, 11, none⟩), .pointer (some ⟨g, 13, none⟩), .pointer (some ⟨g, 14, none⟩), .pointer (some ⟨g, 15, none⟩), .pointer (some ⟨g, 16, none⟩), .pointer (some ⟨g, 17, none⟩), .pointer (some ⟨g, 18, none⟩)]
def nils : Array Value := #[.pointer none, .pointer none, .pointer none, .pointer none, .pointer none, .pointer none, .pointer none, .pointer none, .pointer none, .pointer none, .pointer none, .pointer none, .pointer none, .pointer none, .pointer none]

theorem ptrs_one {g : Nat} : (ptrs g).all (·.oneCell') = true := by simp [ptrs, Value.oneCell']

set_option maxRecDepth 100000 in
set_option maxHeartbeats 4000000 in
theorem numbers_any (g : Nat) (w : World) :
    Calls Try.prog 22 #[.pointer (some ⟨g, 0, none⟩)] w fun e w' => e = .returned (.agg (ptrs g)) ∧ Below w.heap.size w w' := by
  go_enter Try.func22, Try.ntmps22
  go_wp2_with fail
  have h0 : (w.alloc (.cells nils 55)).drew.heap[w.heap.size]? = some (.cells nils 55 (0, 0)) := heap_alloc_new w _
  have hb : Below w.heap.size w (w.alloc (.cells nils 55)) := below_new w _
  have H0 := Lib.hid h0; have HB := Lib.hid hb
  clear h0 hb
  change Code.wp _ _ _ _ (w.alloc (.cells nils 55))
  generalize w.alloc (.cells nils 55) = W at *
  go_still_tail 48, (by kernel_rfl)
  change wpList _ _ _ _ _ W.drew
  go_wp2_with (refine wpList_store_row rfl 55 (.tmp 2) (.tmp 50) rfl w.heap.size (ptrs g) rfl rfl 55 nils H0.out (by kernel_rfl) rfl ptrs_one ?_)
  refine bodyPost_ret (results_cell_row rfl _ _ w.heap.size 55 (ptrs g) (0, 0) _ rfl (setRow_heap _ _ _ _ _ _ H0.out) Try.underlying55 rfl (by kernel_rfl)) rfl ⟨rfl, ?_⟩
  exact HB.out.drew.trans ⟨rfl, rfl, rfl, by simp, fun k hk => setRow_other _ _ _ _ (by omega)⟩

end Go.Proofs.Ytbapifbahhjfgaa
