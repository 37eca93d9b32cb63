/- The document's bad and Unquote. -/
import Derived.Test.YtpiflikblpfgoaaDoorPatRefRead
namespace Go.Proofs.YtpiflikblpfgoaaDoor
open Go.RowKit PM

theorem results_row1 {fn : Func} {p2 : Tmp} {t2 : TypeId} (h : fn.results = #[.cell p2 t2]) (tmps : Array Value) (W : World) (b2 : Nat) (Y : Value)
    (h2 : tmps.getD p2 undef = .pointer (some ⟨b2, 0, none⟩)) (l2 : (loadVar t2 ⟨b2, 0, none⟩).run Tryd.prog W = .ok Y W) :
    (results fn tmps).run Tryd.prog W = .ok Y W := by
  have h2' : tmps[p2]?.getD undef = .pointer (some ⟨b2, 0, none⟩) := by simpa using h2
  simp [results, h, h2', asAddr, l2]

set_option maxRecDepth 100000 in
theorem bad_any (k : Nat) (w : World) : Calls Tryd.prog 28 #[.int .i64 k] w fun e w' => e = .returned (spotV 6 k) ∧ Below w.heap.size w w' := by
  have hN := Lib.hid (heap_alloc_new w (.cells (spotC 6 k) TSp)); have HB := Lib.hid (below_new w (.cells (spotC 6 k) TSp))
  go_enter Tryd.func28, Tryd.ntmps28
  go_wp2_with fail
  exact bodyPost_ret (results_row1 rfl _ _ w.heap.size _ rfl (load_spot _ _ _ hN.out rfl)) rfl ⟨rfl, HB.out⟩

end Go.Proofs.YtpiflikblpfgoaaDoor