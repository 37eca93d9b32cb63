/- The document's text (dragomanref01.Text), at every text of at most 2^31 bytes. -/
import Derived.Test.YtbapifbahhjfgaaWireEnc
namespace Go.Proofs.Ytbapifbahhjfgaa
open Go.RowKit

set_option maxRecDepth 100000 in
set_option maxHeartbeats 1000000 in
theorem refText_any (s : ByteArray) (w : World) (hs : s.size ≤ 1048576) :
    Calls Try.prog 41 #[.string s] w fun e w' => e = .returned (.string (bs (WM.text s.data.toList))) ∧ Below w.heap.size w w' := by
  go_enter Try.func41, Try.ntmps41
  go_wp2_with fail
  refine (refNumber_int _ _ _ (by omega) (by omega) (by omega) (by omega)).mono ?_
  rintro e w1 ⟨rfl, hb1⟩
  simp only [Int.toNat_natCast]
  rw [show (4 : Int).toNat = 4 from rfl]
  have ht := text_bs s
  have hz1 := bs_size (WM.be 4 s.size)
  rw [WM.be_len] at hz1
  go_wp2
  go_ret
  exact ⟨rfl, hb1⟩

end Go.Proofs.Ytbapifbahhjfgaa
