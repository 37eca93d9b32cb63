/- What the rows of this layer ask for beside: the library's table, as its variable reads. -/
import Derived.Test.YtfhggnbnbopkkaaDoorRows
import Derived.Test.YtfhggnbnbopkkaaDoorNfaMem
import Derived.ProofKit
import Derived.LaidMore
import Derived.OpenShut
import Derived.Stop.Joined
import Derived.Lib.LaidTab
namespace Go.Proofs.YtfhggnbnbopkkaaDoor
open Go.RowKit PM

theorem gTab : Tryd.prog.globalNamed "math/bits.deBruijn64tab" = some 0 := by kernel_rfl
theorem tTab : (Tryd.prog.globals[0]?).map (·.type) = some 123 := by kernel_rfl
abbrev laidL : List (String × DataW Unit) := [("math/bits.deBruijn64tab", Rows.laid_math_bits_deBruijn64tab)]
theorem tab_of_laid {W : World} (h : laidMetH Tryd.prog laidL W) : Tab W := by
  rw [MakeChecks.laidMetH_plain _ _ _ (by kernel_rfl)] at h
  have hd : (Rows.laid_math_bits_deBruijn64tab : DataW Unit) = Lib.tabData .u8 (Lib.deBruijn64tab.map Int.ofNat) := by kernel_rfl
  unfold laidL at h
  rw [hd] at h
  have hI := Lib.tabIs_of_head gTab tTab Tryd.underlying123 Tryd.underlying5 (by kernel_rfl) (by kernel_rfl) h
  intro j hj
  have := hI.cell gTab j (by simpa using hj)
  rw [this]
  simp only [List.getD, List.getElem?_map]
  cases hx : Lib.deBruijn64tab[j]? with
  | none => rw [List.getElem?_eq_none_iff] at hx; omega
  | some x => rfl
theorem door_met (os : Os) (args : Array Value) : laidMetH Tryd.prog laidL ((World.doorLaid Tryd.prog 14 os).forCall (fun _ _ => 0) ⟨#[], args, []⟩).memory :=
  laidMetH_of_parts3 (fuel := 8) (laidMet_of_run' 8 (by kernel_rfl) (by kernel_rfl)) (by kernel_rfl) (by kernel_rfl)
end Go.Proofs.YtfhggnbnbopkkaaDoor
