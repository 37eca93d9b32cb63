/- The document's example of a message; is it written, and read? -/
import Derived.Test.YtbapifbahhjfgaaMsgMath
import Derived.Test.YtbapifbahhjfgaaMsgDecode
import Derived.Test.YtbapifbahhjfgaaMsgSame2
namespace Go.Proofs.Ytbapifbahhjfgaa
open Go.RowKit

def exMsg : Msg := { kind := 2, n := fun i => if i = 0 then 1 else if i = 2 then 3 else 0, good := true, op := 0, err := 0, leader := 0, data := ⟨#[]⟩, ents := [] }
theorem exMsg_check : exMsg.check = 0 := by rfl

set_option maxRecDepth 100000 in
set_option maxHeartbeats 4000000 in
theorem example_any (w : World) :
    Calls Try.prog 14 #[] w fun e w' => e = .returned (exMsg.val (.slice none 0 0)) ∧ Below w.heap.size w w' := by
  go_enter Try.func14, Try.ntmps14
  have H0 := Lib.hid (heap_alloc_new w (.cells (zeroMsg.cells A0).toArray TM))
  have HB := Lib.hid (below_new w (.cells (zeroMsg.cells A0).toArray TM))
  go_wp2_with (refine wpList_store_row rfl TM (.tmp 0) (.tmp 1) rfl w.heap.size (exMsg.cells A0).toArray rfl rfl TM (zeroMsg.cells A0).toArray H0.out (by kernel_rfl) rfl (cells_one exMsg _ _ _) ?_)
  refine bodyPost_ret (results_cell_row rfl _ _ w.heap.size TM (exMsg.cells A0).toArray (0, 0) _ rfl (setRow_heap _ _ _ _ _ _ H0.out) Try.underlying28 rfl (by kernel_rfl)) rfl ⟨rfl, ?_⟩
  exact HB.out.trans (below_setRow _ _ _ (Nat.le_refl _))

end Go.Proofs.Ytbapifbahhjfgaa
