/- Patterns and texts that came in. -/
import Derived.Test.YtfhggnbnbopkkaaDoorMatAll
import Derived.Test.YtfhggnbnbopkkaaDoorRowPat
import Derived.SliceStrings
import Derived.Deep.Slices
import Derived.ProofKit
import Derived.OpenShut
namespace Go.Proofs.YtfhggnbnbopkkaaDoor
open Go.ChangeShapes Go.WideShapes Go.RowKit Go.Deep

set_option maxRecDepth 100000
theorem strs_weights {H : Type} {P : Program} {e : TypeId} : ∀ (ss : List ByteArray) (x : ByteArray), x ∈ ss → x.size ∈ DataW.weightsAll (H := H) P e (ChangeShapes.strs ss)
  | [], x, h => by simp at h
  | a :: l, x, h => by
    simp only [ChangeShapes.strs, List.map_cons, DataW.weightsAll, List.mem_append]
    rcases List.mem_cons.1 h with rfl | h
    · left; simp only [DataW.weights, List.mem_singleton]; rfl
    · right; exact strs_weights l x h
/-- texts that came in, with the reach -/
theorem open_strs {H : Type} {enc : TypeId × Value → H} {W : World} {v : Value} {d : DataW H} {p : List MemPlace} {r : Reach} {b0 : Nat}
    (hval : Value.okWide Tryd.prog W r b0 30 v) (k : DataW.Trod enc Tryd.prog W 0 (fun _ => true) true 30 v d p) (hw : ∀ n ∈ d.weights Tryd.prog 30, n ≤ 140737488351232) :
    ∃ A c ss, v = .slice A ss.length c ∧ SIn W A ss ∧ (∀ s ∈ ss, s.size ≤ 140737488355327) ∧ ss.length ≤ 9223372036854775806 := by
  obtain ⟨a0, len0, cap0, rfl⟩ := okWide_slice Tryd.underlying30 hval
  obtain ⟨fuel, hf⟩ := k
  rcases open_strings Tryd.underlying30 Tryd.underlying9 (by kernel_rfl) hf with ⟨hcs, hx⟩ | ⟨a, len, cap, ss, hcs, _, hl, hm, hz, hx, hcell, hsz⟩
  · simp [Value.cells] at hcs
    obtain ⟨rfl, rfl, rfl⟩ := hcs
    exact ⟨none, 0, [], rfl, ⟨fun k s h => by simp at h⟩, by simp, by simp⟩
  · simp [Value.cells] at hcs
    obtain ⟨rfl, rfl, rfl⟩ := hcs
    simp only [if_true] at hz
    have hlen : (ss.take len0).length = len0 := by simp; omega
    have hd : d = .slice (ChangeShapes.strs (ss.take len0)) (ChangeShapes.strs (ss.drop len0)) := congrArg Prod.fst hx
    rw [hd] at hw
    simp only [DataW.weights, Tryd.underlying30] at hw
    refine ⟨some a, cap0, ss.take len0, by rw [hlen], ⟨fun j s hj => ?_⟩, fun s hs => ?_, ?_⟩
    · rw [List.getElem?_take] at hj
      split at hj
      · obtain ⟨h1, h2⟩ := List.getElem?_eq_some_iff.1 hj
        refine ⟨a, rfl, ?_⟩
        rw [hcell j h1]
        simp [List.getD, hj]
      · cases hj
    · have := hw s.size (by
        simp only [List.mem_cons, List.mem_append]
        exact .inr (.inl (strs_weights _ s hs)))
      omega
    · have hwl := hw _ (List.mem_cons_self ..)
      rw [show Tryd.prog.bytesOf 9 = 16 from by kernel_rfl] at hwl
      simp only [ChangeShapes.strs, List.length_map] at hwl
      omega
section
variable {H : Type} {enc : TypeId × Value → H} {P : Program} {W : World}
theorem get_of_take {cs : List Value} {j : Nat} {v : Value} (h : (cs.drop j).take 1 = [v]) : cs[j]? = some v := by
  have h1 : ((cs.drop j).take 1)[0]? = some v := by rw [h]; rfl
  rw [List.getElem?_take, if_pos (by omega), List.getElem?_drop] at h1
  simpa using h1
theorem fld {t : TypeId} {fs : Array Field} {fuel : Nat} {cs : List Value} {x : DataW H × List MemPlace} (hs : P.underlying t = some (.struct fs)) (h : DataW.trod enc P W 0 (fun _ => true) true fuel t cs = some x)
    (i : Nat) (f : Field) (hf : fs[i]? = some f) (ti o c : Nat) (ht : f.type = ti) (ho : f.offset = o) (hc : P.cellsOf ti = c) :
    ∃ n y, DataW.trod enc P W 0 (fun _ => true) true n ti ((cs.drop o).take c) = some y := by
  obtain ⟨xs, n, _, hx, _, hlen, hg⟩ := DataW.trod_struct hs h
  have hi : i < fs.size := (Array.getElem?_eq_some_iff.1 hf).1
  have q := hg i f hf
  rw [ht, ho, hc, List.getElem?_eq_getElem (by omega)] at q
  exact ⟨n, _, q⟩
end
/-- patterns that came in -/
theorem open_pats {H : Type} {enc : TypeId × Value → H} {W : World} {v : Value} {d : DataW H} {p : List MemPlace} {r : Reach} {b0 : Nat}
    (hval : Value.okWide Tryd.prog W r b0 22 v) (k : DataW.Trod enc Tryd.prog W 0 (fun _ => true) true 22 v d p) :
    ∃ A c ps, v = .slice A (ps : List Pat).length c ∧ PIn W A ps ∧ ps.length ≤ 9223372036854775807 := by
  obtain ⟨a0, len0, cap0, rfl⟩ := okWide_slice Tryd.underlying22 hval
  obtain ⟨fuel, hf⟩ := k
  rcases open_slice Tryd.underlying22 hf with ⟨hcs, hx⟩ | ⟨a, len, cap, m, n', D, Pl, hcs, _, hl, hm, hmm, hx, hi⟩
  · simp [Value.cells] at hcs
    obtain ⟨rfl, rfl, rfl⟩ := hcs
    exact ⟨none, 0, [], rfl, ⟨fun k p h => by simp at h, fun p h => by cases h⟩, by simp⟩
  · simp [Value.cells] at hcs
    obtain ⟨rfl, rfl, rfl⟩ := hcs
    simp only [if_true] at hmm
    have hall : ∀ k, ∃ q : Pat, k < len0 → W.cell? (a.add (k * 2)) = some (.int .i64 q.kind) ∧ W.cell? ((a.add (k * 2)).add 1) = some (.string q.text) ∧ q.text.size ≤ 9223372036854775807 := by
      intro k
      by_cases hk : k < len0
      · obtain ⟨cs', hc, ht'⟩ := hi k (by omega)
        rw [show Tryd.prog.cellsOf TPat = 2 from by kernel_rfl] at hc
        obtain ⟨_, hcl, hat⟩ := World.cells?_some hc
        obtain ⟨_, _, q0⟩ := fld Tryd.underlying32 ht' 0 _ rfl 3 0 1 rfl rfl (by kernel_rfl)
        obtain ⟨_, _, q1⟩ := fld Tryd.underlying32 ht' 1 _ rfl 9 1 1 rfl rfl (by kernel_rfl)
        obtain ⟨z, hz, _⟩ := DataW.trod_int Tryd.underlying3 q0
        obtain ⟨s, hs, _, hsz⟩ := DataW.trod_string Tryd.underlying9 q1
        exact ⟨⟨z, s⟩, fun _ => ⟨(hat 0 (by omega)).trans (get_of_take hz), (hat 1 (by omega)).trans (get_of_take hs), str_le hsz⟩⟩
      · exact ⟨⟨0, ByteArray.empty⟩, fun h => absurd h hk⟩
    have hch := fun k => Classical.choose_spec (hall k)
    have hlen : ((List.range len0).map fun k => Classical.choose (hall k)).length = len0 := by rw [List.length_map, List.length_range]
    refine ⟨some a, cap0, (List.range len0).map fun k => Classical.choose (hall k), by rw [hlen], ⟨fun k q hk => ?_, fun q hq => ?_⟩, by rw [hlen]; unfold maxLen at hm; omega⟩
    · have hkl : k < len0 := by have := (List.getElem?_eq_some_iff.1 hk).1; rwa [hlen] at this
      rw [List.getElem?_map, List.getElem?_range hkl] at hk
      cases hk
      exact ⟨a, rfl, (hch k hkl).1, (hch k hkl).2.1⟩
    · obtain ⟨k, hk, rfl⟩ := List.mem_map.1 hq
      exact (hch k (List.mem_range.1 hk)).2.2
end Go.Proofs.YtfhggnbnbopkkaaDoor
