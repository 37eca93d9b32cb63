/- No net and no way: what they do. -/
import Derived.Test.YtpiflikblpfgoaaDoorNfaWorks
namespace Go.Proofs.YtpiflikblpfgoaaDoor
open Go.RowKit PM

theorem match_nil (s : ByteArray) (w : World) : Calls Tryd.prog 14 #[.pointer none, .string s] w fun e w' => e = .returned (.bool false) ∧ w = w' := by
  go_enter Tryd.func14, Tryd.ntmps14
  go_wp2_with fail
  go_ret
  exact ⟨rfl, rfl⟩
theorem begin_nil (w : World) : Calls Tryd.prog 17 #[.pointer none] w fun e w' => e = .returned (.pointer none) ∧ w = w' := by
  go_enter Tryd.func17, Tryd.ntmps17
  go_wp2_with fail
  go_ret
  exact ⟨rfl, rfl⟩

/-- what is fitted is not dead; what is dead stays it -/
theorem NetIs.live {w : World} {b : Nat} {t : T} {A : Nat → Bool} (h : NetIs w b t A) {s : List UInt8} (hf : fitsB t s = true) : deadB (netOf t).1 (netOf t).2 A s = false :=
  (fits_dead h.tree.wf h.closed s).2 ⟨[], by rw [List.append_nil]; exact (fitsB_iff h.tree.wf s).1 hf⟩
theorem NetIs.stays {w : World} {b : Nat} {t : T} {A : Nat → Bool} (h : NetIs w b t A) {s : List UInt8} (v : List UInt8) (hd : deadB (netOf t).1 (netOf t).2 A s = true) : deadB (netOf t).1 (netOf t).2 A (s ++ v) = true := by
  cases hd2 : deadB (netOf t).1 (netOf t).2 A (s ++ v) with
  | true => rfl
  | false =>
    obtain ⟨u, hu⟩ := (fits_dead h.tree.wf h.closed (s ++ v)).1 hd2
    have := (fits_dead h.tree.wf h.closed s).2 ⟨v ++ u, by rw [← List.append_assoc]; exact hu⟩
    rw [hd] at this; cases this
theorem take_snoc (s : ByteArray) (i : Nat) (h : i < s.size) : s.data.toList.take i ++ [s[i]] = s.data.toList.take (i + 1) := by
  rw [List.take_succ_eq_append_getElem (show i < s.data.toList.length from h)]; rfl
end Go.Proofs.YtpiflikblpfgoaaDoor
