/- A slice of texts that came in. -/
import Derived.Test.YteandcpjadmgcaaWireTexts
import Derived.SliceStrings
import Derived.OpenShut
import Derived.ProofKit
namespace Go.Proofs.Yteandcpjadmgcaa
open Go.ChangeShapes Go.WideShapes Go.RowKit

theorem str_le' {s : ByteArray} (h : s.size ≤ maxLen) : s.size ≤ 9223372036854775807 := by
  unfold maxLen at h; omega

theorem open_texts {H : Type} {enc : TypeId × Value → H} {P : Program} {W : World} {t e : TypeId} {v : Value} {d : DataW H} {p : List MemPlace} {r : Reach} {b0 : Nat}
    (ht : P.underlying t = some (.slice e)) (he : P.underlying e = some .string) (hc : P.cellsOf e = 1) (hval : Value.okWide P W r b0 t v) (k : DataW.Trod enc P W 0 (fun _ => true) true t v d p) :
    ∃ A c ss, v = .slice A ss.length c ∧ SArg W W.heap.size A ss ∧ (A = none → ss = [] ∧ c = 0) ∧ (∀ s ∈ ss, s.size ≤ 9223372036854775807) ∧ ss.length ≤ 9223372036854775807 := by
  obtain ⟨a0, len0, cap0, rfl⟩ := okWide_slice ht hval
  obtain ⟨fuel, hf⟩ := k
  rcases open_strings ht he hc hf with ⟨hcs, hx⟩ | ⟨a, len, cap, ss, hcs, _, hl, hm, hz, hx, hcell, hsz⟩
  · simp [Value.cells] at hcs
    obtain ⟨rfl, rfl, rfl⟩ := hcs
    exact ⟨none, 0, [], rfl, fun h => absurd h (by simp), fun _ => ⟨rfl, rfl⟩, by simp, by simp⟩
  · simp [Value.cells] at hcs
    obtain ⟨rfl, rfl, rfl⟩ := hcs
    simp only [if_true] at hz
    have hlen : (ss.take len0).length = len0 := by simp; omega
    refine ⟨some a, cap0, ss.take len0, by rw [hlen], fun h0 => ⟨a, rfl, ?_, ?_⟩, fun h => by simp at h, fun s hs => str_le' (hsz s (List.mem_of_mem_take hs)), by rw [hlen]; unfold maxLen at hm; omega⟩
    · have := World.block_lt_of_cell? W _ (hcell 0 (by rw [hlen] at h0; omega))
      rwa [block_add] at this
    · intro j s hj
      rw [List.getElem?_take] at hj
      split at hj
      · have hj2 := (List.getElem?_eq_some_iff.1 hj)
        obtain ⟨h1, h2⟩ := hj2
        rw [hcell j h1]
        simp [List.getD, hj]
      · cases hj

end Go.Proofs.Yteandcpjadmgcaa
