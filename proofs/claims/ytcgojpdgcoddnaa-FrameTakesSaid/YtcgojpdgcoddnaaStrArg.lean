/- A slice of texts that came in. -/
import Derived.Test.YtcgojpdgcoddnaaWireTexts
import Derived.SliceStrings
import Derived.OpenShut
import Derived.ProofKit
import Derived.SizedLaws
namespace Go.Proofs.Ytcgojpdgcoddnaa
open Go.ChangeShapes Go.WideShapes Go.RowKit

theorem str_le' {s : ByteArray} (h : s.size ≤ maxLen) : s.size ≤ 9223372036854775807 := by
  unfold maxLen at h; omega

theorem open_texts {H : Type} {enc : TypeId × Value → H} {P : Program} {W : World} {t e : TypeId} {v : Value} {d : DataW H} {p : List MemPlace} {r : Reach} {b0 : Nat}
    (ht : P.underlying t = some (.slice e)) (he : P.underlying e = some .string) (hc : P.cellsOf e = 1) (hval : Value.okWide P W r b0 t v) (k : DataW.Trod enc P W 0 (fun _ => true) true t v d p) :
    ∃ A c ss, v = .slice A ss.length c ∧ SArg W W.heap.size A ss ∧ (A = none → ss = [] ∧ c = 0) ∧ (∀ s ∈ ss, s.size ≤ 9223372036854775807) ∧ ss.length ≤ 9223372036854775807 := by
  obtain ⟨a0, len0, cap0, rfl⟩ := okWide_slice ht hval
  obtain ⟨fuel, hf⟩ := k
  rcases open_strings ht he hc hf with ⟨hcs, hx⟩ | ⟨a, len, cap, ss, hcs, _, hl, hm, hz, hx, hcell, hsz⟩
  · simp [Value.cells] at hcs
    obtain ⟨rfl, rfl, rfl⟩ := hcs
    exact ⟨none, 0, [], rfl, fun h => absurd h (by simp), fun _ => ⟨rfl, rfl⟩, by simp, by simp⟩
  · simp [Value.cells] at hcs
    obtain ⟨rfl, rfl, rfl⟩ := hcs
    simp only [if_true] at hz
    have hlen : (ss.take len0).length = len0 := by simp; omega
    refine ⟨some a, cap0, ss.take len0, by rw [hlen], fun h0 => ⟨a, rfl, ?_, ?_⟩, fun h => by simp at h, fun s hs => str_le' (hsz s (List.mem_of_mem_take hs)), by rw [hlen]; unfold maxLen at hm; omega⟩
    · have := World.block_lt_of_cell? W _ (hcell 0 (by rw [hlen] at h0; omega))
      rwa [block_add] at this
    · intro j s hj
      rw [List.getElem?_take] at hj
      split at hj
      · have hj2 := (List.getElem?_eq_some_iff.1 hj)
        obtain ⟨h1, h2⟩ := hj2
        rw [hcell j h1]
        simp [List.getD, hj]
      · cases hj

theorem mem_weights {H : Type} {P : Program} {ts : List TypeId} {ds : List (DataW H)} (h : (DataW.weightsEach P ts ds).all (· ≤ reachBytes) = true) {j : Nat} {t : TypeId} {d : DataW H} (ht : ts[j]? = some t) (hd : ds[j]? = some d) : ∀ n ∈ d.weights P t, n ≤ 140737488351232 := by
  intro n hn
  have : n ≤ reachBytes := of_decide_eq_true (List.all_eq_true.1 h n (DataW.weights_mem_each ht hd n hn))
  exact this

theorem str_weight {H : Type} {P : Program} {t : TypeId} {s : ByteArray} (h : ∀ n ∈ (DataW.lit (.string s.data.toList) : DataW H).weights P t, n ≤ 140737488351232) : s.size ≤ 140737488355327 := by
  have := h s.data.toList.length (by simp [DataW.weights])
  have e : s.data.toList.length = s.size := rfl
  omega

theorem strs_weights {H : Type} {P : Program} {e : TypeId} : ∀ (ss : List ByteArray) (x : ByteArray), x ∈ ss → x.size ∈ DataW.weightsAll (H := H) P e (ChangeShapes.strs ss)
  | [], x, h => by simp at h
  | a :: l, x, h => by
    simp only [ChangeShapes.strs, List.map_cons, DataW.weightsAll, List.mem_append]
    rcases List.mem_cons.1 h with rfl | h
    · left; simp only [DataW.weights, List.mem_singleton]; rfl
    · right; exact strs_weights l x h

/-- .. with the reach: no text, and no slice, of more bytes than memory has -/
theorem open_textsS {H : Type} {enc : TypeId × Value → H} {P : Program} {W : World} {t e : TypeId} {v : Value} {d : DataW H} {p : List MemPlace} {r : Reach} {b0 : Nat}
    (ht : P.underlying t = some (.slice e)) (he : P.underlying e = some .string) (hc : P.cellsOf e = 1) (hby : P.bytesOf e = 16) (hval : Value.okWide P W r b0 t v) (k : DataW.Trod enc P W 0 (fun _ => true) true t v d p)
    (hw : ∀ n ∈ d.weights P t, n ≤ 140737488351232) :
    ∃ A c ss, v = .slice A ss.length c ∧ SArg W W.heap.size A ss ∧ (A = none → ss = [] ∧ c = 0) ∧ (∀ s ∈ ss, s.size ≤ 140737488355327) ∧ ss.length ≤ 8796093022207 := by
  obtain ⟨a0, len0, cap0, rfl⟩ := okWide_slice ht hval
  obtain ⟨fuel, hf⟩ := k
  rcases open_strings ht he hc hf with ⟨hcs, hx⟩ | ⟨a, len, cap, ss, hcs, _, hl, hm, hz, hx, hcell, hsz⟩
  · simp [Value.cells] at hcs
    obtain ⟨rfl, rfl, rfl⟩ := hcs
    exact ⟨none, 0, [], rfl, fun h => absurd h (by simp), fun _ => ⟨rfl, rfl⟩, by simp, by simp⟩
  · simp [Value.cells] at hcs
    obtain ⟨rfl, rfl, rfl⟩ := hcs
    simp only [if_true] at hz
    have hlen : (ss.take len0).length = len0 := by simp; omega
    have hd : d = .slice (ChangeShapes.strs (ss.take len0)) (ChangeShapes.strs (ss.drop len0)) := congrArg Prod.fst hx
    rw [hd] at hw
    simp only [DataW.weights, ht] at hw
    refine ⟨some a, cap0, ss.take len0, by rw [hlen], fun h0 => ⟨a, rfl, ?_, ?_⟩, fun h => by simp at h, fun s hs => ?_, ?_⟩
    · have := World.block_lt_of_cell? W _ (hcell 0 (by rw [hlen] at h0; omega))
      rwa [block_add] at this
    · intro j s hj
      rw [List.getElem?_take] at hj
      split at hj
      · have hj2 := (List.getElem?_eq_some_iff.1 hj)
        obtain ⟨h1, h2⟩ := hj2
        rw [hcell j h1]
        simp [List.getD, hj]
      · cases hj
    · have := hw s.size (by simp only [List.mem_cons, List.mem_append]; exact Or.inr (Or.inl (strs_weights _ _ hs)))
      omega
    · have := hw _ (List.mem_cons_self)
      rw [hby] at this
      simp only [ChangeShapes.strs, List.length_map, List.length_take, List.length_drop] at this
      rw [hlen]
      omega

end Go.Proofs.Ytcgojpdgcoddnaa
