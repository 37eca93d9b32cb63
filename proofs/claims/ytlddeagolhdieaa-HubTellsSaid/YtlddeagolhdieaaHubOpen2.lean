/- Lists of lists of happenings, and lists of numbers, that came in. -/
import Derived.Test.YtlddeagolhdieaaHubOpen
import Derived.Deep.Slices
import Derived.OpenShut
import Derived.ProofKit
import Derived.SizedLaws
namespace Go.Proofs.Ytlddeagolhdieaa
open Go.ChangeShapes Go.WideShapes Go.RowKit Go.Deep

set_option maxRecDepth 100000
structure PIn where
  A : Option Addr
  l : List Hap
  c : Nat
/-- parts that came in -/
def PartsIn (W : World) (A : Option Addr) (ps : List PIn) : Prop := ∀ (k : Nat) p, ps[k]? = some p → ∃ ad, A = some ad ∧ W.cell? (ad.add k) = some (.slice p.A p.l.length p.c) ∧ HIn W p.A p.l ∧ p.l.length ≤ 4398046511104
/-- numbers that came in -/
def NumsIn (W : World) (A : Option Addr) (ns : List Int) : Prop := ∀ (k : Nat) x, ns[k]? = some x → ∃ ad, A = some ad ∧ W.cell? (ad.add k) = some (.int .i64 x) ∧ -9223372036854775808 ≤ x ∧ x ≤ 9223372036854775807
theorem PartsIn.on {W W' : World} {A : Option Addr} {ps : List PIn} (h : PartsIn W A ps) (hb : Below W.heap.size W W') : PartsIn W' A ps := fun k p hk => by
  obtain ⟨ad, e, h1, h2, h3⟩ := h k p hk
  exact ⟨ad, e, (hb.cell (World.block_lt_of_cell? W _ h1)).trans h1, h2.on hb, h3⟩
theorem NumsIn.on {W W' : World} {A : Option Addr} {ns : List Int} (h : NumsIn W A ns) (hb : Below W.heap.size W W') : NumsIn W' A ns := fun k p hk => by
  obtain ⟨ad, e, h1, h2⟩ := h k p hk
  exact ⟨ad, e, (hb.cell (World.block_lt_of_cell? W _ h1)).trans h1, h2⟩
section
variable {H : Type} {enc : TypeId × Value → H} {W : World}
set_option maxRecDepth 100000 in
theorem open_parts {v : Value} {d : DataW H} {p : List MemPlace} {r : Reach} {b0 : Nat} (hval : Value.okWide Try.prog W r b0 56 v) (k : DataW.Trod enc Try.prog W 0 (fun _ => true) true 56 v d p)
    (hw : ∀ m ∈ d.weights Try.prog 56, m ≤ 140737488351232) : ∃ (A : Option Addr) (c : Nat) (ps : List PIn), v = .slice A ps.length c ∧ PartsIn W A ps ∧ ps.length ≤ 9223372036854775807 := by
  obtain ⟨a0, len0, cap0, rfl⟩ := okWide_slice Try.underlying56 hval
  obtain ⟨fuel, hf⟩ := k
  rcases open_slice Try.underlying56 hf with ⟨hcs, hx⟩ | ⟨a, len, cap, m, n', D, Pl, hcs, _, hl, hm, hmm, hx, hi⟩
  · simp [Value.cells] at hcs
    obtain ⟨rfl, rfl, rfl⟩ := hcs
    exact ⟨none, 0, [], rfl, fun k o h => by simp at h, by simp⟩
  · simp [Value.cells] at hcs
    obtain ⟨rfl, rfl, rfl⟩ := hcs
    simp only [if_true] at hmm
    have hd : d = _ := congrArg Prod.fst hx
    rw [hd] at hw
    simp only [DataW.weights, Try.underlying56, List.mem_cons, List.mem_append] at hw
    have hwe : ∀ k, k < len0 → ∀ m ∈ (D k).weights Try.prog THs, m ≤ 140737488351232 := fun k hk m hm => hw m (.inr (.inl (weights_all _ (D k) (List.mem_map.2 ⟨k, List.mem_range.2 hk, rfl⟩) m hm)))
    have hall : ∀ k, ∃ o : PIn, k < len0 → W.cell? (a.add k) = some (.slice o.A o.l.length o.c) ∧ HIn W o.A o.l ∧ o.l.length ≤ 4398046511104 := by
      intro k
      by_cases hk : k < len0
      · obtain ⟨cs', hc, ht'⟩ := hi k (by omega)
        rw [show Try.prog.cellsOf THs = 1 from by kernel_rfl] at hc
        obtain ⟨_, hcl, hat⟩ := World.cells?_some hc
        have hcs1 : (cs'.drop 0).take 1 = cs' := by rw [List.drop_zero]; exact List.take_of_length_le (by omega)
        rw [← hcs1] at ht'
        obtain ⟨A, l, c, e4, h4, n4⟩ := fld_haps ht' (hwe k hk)
        exact ⟨⟨A, l, c⟩, fun _ => ⟨by have := (hat 0 (by omega)).trans e4; rw [Nat.mul_one] at this; exact this, h4, n4⟩⟩
      · exact ⟨⟨none, [], 0⟩, fun h => absurd h hk⟩
    have hch := fun k => Classical.choose_spec (hall k)
    have hlen : ((List.range len0).map fun k => Classical.choose (hall k)).length = len0 := by rw [List.length_map, List.length_range]
    refine ⟨some a, cap0, (List.range len0).map fun k => Classical.choose (hall k), by rw [hlen], fun k o hk => ?_, by rw [hlen]; unfold maxLen at hm; omega⟩
    have hkl : k < len0 := by have := (List.getElem?_eq_some_iff.1 hk).1; rwa [hlen] at this
    rw [List.getElem?_map, List.getElem?_range hkl] at hk
    cases hk
    exact ⟨a, rfl, hch k hkl⟩
theorem open_nums {v : Value} {d : DataW H} {p : List MemPlace} {r : Reach} {b0 : Nat} (hval : Value.okWide Try.prog W r b0 34 v) (k : DataW.Trod enc Try.prog W 0 (fun _ => true) true 34 v d p) :
    ∃ (A : Option Addr) (c : Nat) (ns : List Int), v = .slice A ns.length c ∧ NumsIn W A ns ∧ ns.length ≤ 9223372036854775807 := by
  obtain ⟨a0, len0, cap0, rfl⟩ := okWide_slice Try.underlying34 hval
  obtain ⟨fuel, hf⟩ := k
  rcases open_slice Try.underlying34 hf with ⟨hcs, hx⟩ | ⟨a, len, cap, m, n', D, Pl, hcs, _, hl, hm, hmm, hx, hi⟩
  · simp [Value.cells] at hcs
    obtain ⟨rfl, rfl, rfl⟩ := hcs
    exact ⟨none, 0, [], rfl, fun k o h => by simp at h, by simp⟩
  · simp [Value.cells] at hcs
    obtain ⟨rfl, rfl, rfl⟩ := hcs
    simp only [if_true] at hmm
    have hall : ∀ k, ∃ x : Int, k < len0 → W.cell? (a.add k) = some (.int .i64 x) ∧ -9223372036854775808 ≤ x ∧ x ≤ 9223372036854775807 := by
      intro k
      by_cases hk : k < len0
      · obtain ⟨cs', hc, ht'⟩ := hi k (by omega)
        rw [show Try.prog.cellsOf 3 = 1 from by kernel_rfl] at hc
        obtain ⟨_, hcl, hat⟩ := World.cells?_some hc
        have hcs1 : (cs'.drop 0).take 1 = cs' := by rw [List.drop_zero]; exact List.take_of_length_le (by omega)
        rw [← hcs1] at ht'
        obtain ⟨z1, e1, f1⟩ := fld_int Try.underlying3 ht'
        exact ⟨z1, fun _ => ⟨by have := (hat 0 (by omega)).trans e1; rw [Nat.mul_one] at this; exact this, bounds_i64 f1⟩⟩
      · exact ⟨0, fun h => absurd h hk⟩
    have hch := fun k => Classical.choose_spec (hall k)
    have hlen : ((List.range len0).map fun k => Classical.choose (hall k)).length = len0 := by rw [List.length_map, List.length_range]
    refine ⟨some a, cap0, (List.range len0).map fun k => Classical.choose (hall k), by rw [hlen], fun k o hk => ?_, by rw [hlen]; unfold maxLen at hm; omega⟩
    have hkl : k < len0 := by have := (List.getElem?_eq_some_iff.1 hk).1; rwa [hlen] at this
    rw [List.getElem?_map, List.getElem?_range hkl] at hk
    cases hk
    exact ⟨a, rfl, hch k hkl⟩
end
end Go.Proofs.Ytlddeagolhdieaa
