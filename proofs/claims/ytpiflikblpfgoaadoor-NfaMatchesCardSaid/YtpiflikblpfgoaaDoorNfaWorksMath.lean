/- The answer that works asks for: plain. -/
import Derived.Test.YtpiflikblpfgoaaDoorNfaWays
namespace Go.Proofs.YtpiflikblpfgoaaDoor.PM

/-- a+b -/
def tAB : T := joined 3 [over 6 (one 97), one 98]
theorem tree_AB : tree 3 [97, 43, 98] = .ok tAB := by rfl
theorem ab_1 : fitsB tAB [] = false := by rfl
theorem ab_2 : fitsB tAB [97, 97, 98] = true := by rfl
theorem ab_3 : fitsB tAB [98] = false := by rfl
theorem one97 {w : List UInt8} (h : L (one 97) w) : w = [97] := (L_one (c := 97)).1 h
theorem ab_dead (v : List UInt8) : ¬ L tAB (98 :: v) := by
  intro h
  have h1 : L (.mk 3 noSet [over 6 (one 97), one 98]) (98 :: v) := (L_joined3 _ _).1 h
  generalize hw : (98 :: v : List UInt8) = w at h1
  cases h1 with
  | catCons h2 h3 =>
    unfold over at h2
    cases h2 with
    | plus h4 h5 =>
      rw [one97 h4] at hw
      simp at hw
    | other a b c d e f => exact absurd rfl e
  | other a b c d e f => exact absurd rfl b
theorem ab_live : ∃ v, L tAB ([] ++ v) := ⟨[97, 98], (fitsB_iff (T.OK.wf (tree_ok tree_AB).1) _).1 (by rfl)⟩
theorem ab_deadB {A : Nat → Bool} (hA : Closed (netOf tAB).1 (netOf tAB).2 A) : deadB (netOf tAB).1 (netOf tAB).2 A [] = false ∧ deadB (netOf tAB).1 (netOf tAB).2 A [98] = true := by
  have hwf := T.OK.wf (tree_ok tree_AB).1
  refine ⟨(fits_dead hwf hA []).2 ab_live, ?_⟩
  cases h : deadB (netOf tAB).1 (netOf tAB).2 A [98] with
  | true => rfl
  | false => obtain ⟨v, hv⟩ := (fits_dead hwf hA [98]).1 h; exact absurd hv (ab_dead v)
end Go.Proofs.YtpiflikblpfgoaaDoor.PM
