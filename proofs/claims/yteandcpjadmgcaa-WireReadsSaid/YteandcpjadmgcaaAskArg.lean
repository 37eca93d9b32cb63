/- A slice of asks (three whole numbers each) that came in. -/
import Derived.Test.YteandcpjadmgcaaWireReads
import Derived.Deep.Slices
import Derived.OpenShut
import Derived.ProofKit
namespace Go.Proofs.Yteandcpjadmgcaa
open Go.ChangeShapes Go.WideShapes Go.RowKit Go.Deep

section
variable {H : Type} {enc : TypeId × Value → H} {P : Program} {W : World}

/-- one whole number among a struct's cells -/
theorem field_int {cs' : List Value} {n j ti : Nat} {y : DataW H × List MemPlace} (hti : P.underlying ti = some (.int .i64)) (h : DataW.trod enc P W 0 (fun _ => true) true n ti ((cs'.drop j).take 1) = some y) :
    ∃ z : Int, cs'[j]? = some (.int .i64 z) ∧ (-9223372036854775808 ≤ z ∧ z ≤ 9223372036854775807) := by
  obtain ⟨z, hz, _, hw⟩ := DataW.trod_int hti h
  refine ⟨z, ?_, bounds_i64 hw⟩
  have h1 : ((cs'.drop j).take 1)[0]? = some (.int .i64 z) := by rw [hz]; rfl
  rw [List.getElem?_take, if_pos (by omega), List.getElem?_drop] at h1
  simpa using h1

theorem open_asks {t e ti : TypeId} {fs : Array Field} {f0 f1 f2 : Field} {v : Value} {d : DataW H} {p : List MemPlace} {r : Reach} {b0 : Nat}
    (ht : P.underlying t = some (.slice e)) (he : P.underlying e = some (.struct fs)) (hC : P.cellsOf e = 3) (hs : fs.size = 3) (g0 : fs[0]? = some f0) (g1 : fs[1]? = some f1) (g2 : fs[2]? = some f2)
    (t0 : f0.type = ti) (t1 : f1.type = ti) (t2 : f2.type = ti) (o0 : f0.offset = 0) (o1 : f1.offset = 1) (o2 : f2.offset = 2) (hti : P.underlying ti = some (.int .i64)) (hci : P.cellsOf ti = 1)
    (hval : Value.okWide P W r b0 t v) (k : DataW.Trod enc P W 0 (fun _ => true) true t v d p) :
    ∃ A c n, v = .slice A n c ∧ QArg W W.heap.size A n ∧ n ≤ 9223372036854775807 := by
  obtain ⟨a0, len0, cap0, rfl⟩ := okWide_slice ht hval
  obtain ⟨fuel, hf⟩ := k
  rcases open_slice ht hf with ⟨hcs, hx⟩ | ⟨a, len, cap, m, n, D, Pl, hcs, _, hl, hm, hmm, hx, hi⟩
  · simp [Value.cells] at hcs
    obtain ⟨rfl, rfl, rfl⟩ := hcs
    exact ⟨none, 0, 0, rfl, fun k hk => by omega, by omega⟩
  · simp [Value.cells] at hcs
    obtain ⟨rfl, rfl, rfl⟩ := hcs
    simp only [if_true] at hmm
    refine ⟨some a, cap0, len0, rfl, fun k hk => ?_, by unfold maxLen at hm; omega⟩
    obtain ⟨cs', hc, ht'⟩ := hi k (by omega)
    rw [hC] at hc
    obtain ⟨ys, n', _, _, _, hyl, hfs⟩ := DataW.trod_struct he ht'
    obtain ⟨_, hcl, hat⟩ := World.cells?_some hc
    have y0 : ∃ y, ys[0]? = some y := ⟨_, List.getElem?_eq_getElem (by omega)⟩
    have y1 : ∃ y, ys[1]? = some y := ⟨_, List.getElem?_eq_getElem (by omega)⟩
    have y2 : ∃ y, ys[2]? = some y := ⟨_, List.getElem?_eq_getElem (by omega)⟩
    obtain ⟨y0, y0⟩ := y0
    obtain ⟨y1, y1⟩ := y1
    obtain ⟨y2, y2⟩ := y2
    have q0 := hfs 0 f0 g0
    have q1 := hfs 1 f1 g1
    have q2 := hfs 2 f2 g2
    rw [t0, o0, hci, y0] at q0
    rw [t1, o1, hci, y1] at q1
    rw [t2, o2, hci, y2] at q2
    obtain ⟨x, x1, _⟩ := field_int hti q0
    obtain ⟨c, c1, c2⟩ := field_int hti q1
    obtain ⟨z, z1, z2⟩ := field_int hti q2
    have a0 : W.cell? (a.add (k * 3)) = some (.int .i64 x) := (hat 0 (by omega)).trans x1
    refine ⟨a, x, c, z, rfl, ?_, a0, (hat 1 (by omega)).trans c1, (hat 2 (by omega)).trans z1, c2, z2⟩
    have := World.block_lt_of_cell? W _ a0
    rwa [block_add] at this
end

end Go.Proofs.Yteandcpjadmgcaa
