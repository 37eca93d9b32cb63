/- A message that came in: its cells and its entries. -/
import Derived.Test.YtbapifbahhjfgaaMsgCheck
import Derived.Test.YtbapifbahhjfgaaRowKit
import Derived.Deep.Slices
import Derived.OpenShut
import Derived.ProofKit
namespace Go.Proofs.Ytbapifbahhjfgaa
open Go.ChangeShapes Go.WideShapes Go.RowKit Go.Deep

section
variable {H : Type} {enc : TypeId × Value → H} {P : Program} {W : World}

theorem get_of_take {cs : List Value} {j : Nat} {v : Value} (h : (cs.drop j).take 1 = [v]) : cs[j]? = some v := by
  have h1 : ((cs.drop j).take 1)[0]? = some v := by rw [h]; rfl
  rw [List.getElem?_take, if_pos (by omega), List.getElem?_drop] at h1
  simpa using h1

/-- one field of a struct that came in -/
theorem fld {t : TypeId} {fs : Array Field} {fuel : Nat} {cs : List Value} {x : DataW H × List MemPlace} (hs : P.underlying t = some (.struct fs)) (h : DataW.trod enc P W 0 (fun _ => true) true fuel t cs = some x)
    (i : Nat) (f : Field) (hf : fs[i]? = some f) (ti o c : Nat) (ht : f.type = ti) (ho : f.offset = o) (hc : P.cellsOf ti = c) : ∃ n y, DataW.trod enc P W 0 (fun _ => true) true n ti ((cs.drop o).take c) = some y := by
  obtain ⟨xs, n, _, _, _, hlen, hg⟩ := DataW.trod_struct hs h
  have hi : i < fs.size := (Array.getElem?_eq_some_iff.1 hf).1
  have q := hg i f hf
  rw [ht, ho, hc, List.getElem?_eq_getElem (by omega)] at q
  exact ⟨n, _, q⟩

theorem fld_int {cs : List Value} {n j ti : Nat} {k : IntKind} {y : DataW H × List MemPlace} (hti : P.underlying ti = some (.int k)) (h : DataW.trod enc P W 0 (fun _ => true) true n ti ((cs.drop j).take 1) = some y) :
    ∃ z : Int, cs[j]? = some (.int k z) ∧ (Lit.int k z).wf = true := by
  obtain ⟨z, hz, _, hw⟩ := DataW.trod_int hti h
  exact ⟨z, get_of_take hz, hw⟩
theorem fld_bool {cs : List Value} {n j ti : Nat} {y : DataW H × List MemPlace} (hti : P.underlying ti = some .bool) (h : DataW.trod enc P W 0 (fun _ => true) true n ti ((cs.drop j).take 1) = some y) : ∃ z : Bool, cs[j]? = some (.bool z) := by
  obtain ⟨z, hz, _⟩ := DataW.trod_bool hti h
  exact ⟨z, get_of_take hz⟩
theorem fld_str {cs : List Value} {n j ti : Nat} {y : DataW H × List MemPlace} (hti : P.underlying ti = some .string) (h : DataW.trod enc P W 0 (fun _ => true) true n ti ((cs.drop j).take 1) = some y) : ∃ z : ByteArray, cs[j]? = some (.string z) ∧ z.size ≤ maxLen := by
  obtain ⟨z, hz, _, hw⟩ := DataW.trod_string hti h
  exact ⟨z, get_of_take hz, hw⟩
end

section
variable {H : Type} {enc : TypeId × Value → H} {W : World}

/-- a slice of entries that came in -/
theorem fld_ents {cs : List Value} {n j : Nat} {y : DataW H × List MemPlace} (h : DataW.trod enc Try.prog W 0 (fun _ => true) true n 23 ((cs.drop j).take 1) = some y) :
    ∃ (A : Option Addr) (l : List (Int × ByteArray)) (c : Nat), cs[j]? = some (.slice A l.length c) ∧ EArg W W.heap.size A l ∧ l.length ≤ 9223372036854775807 := by
  rcases open_slice Try.underlying23 h with ⟨hcs, _⟩ | ⟨a, len, cap, m, n', D, Pl, hcs, _, hl, hm, hmm, _, hi⟩
  · exact ⟨none, [], 0, get_of_take hcs, fun k hk => absurd hk (Nat.not_lt_zero _), by simp⟩
  · simp only [if_true] at hmm
    have hall : ∀ k, ∃ p : Int × ByteArray, k < len → W.cell? (a.add (k * 2)) = some (.int .i64 p.1) ∧ W.cell? (a.add (k * 2 + 1)) = some (.string p.2) := by
      intro k
      by_cases hk : k < len
      · obtain ⟨cs', hc, ht'⟩ := hi k (by omega)
        rw [show Try.prog.cellsOf TE = 2 from by kernel_rfl] at hc
        obtain ⟨_, hcl, hat⟩ := World.cells?_some hc
        obtain ⟨n1, y1, q1⟩ := fld Try.underlying48 ht' 0 _ rfl 3 0 1 rfl rfl (by kernel_rfl)
        obtain ⟨n2, y2, q2⟩ := fld Try.underlying48 ht' 1 _ rfl 9 1 1 rfl rfl (by kernel_rfl)
        obtain ⟨z, hz, _⟩ := fld_int Try.underlying3 q1
        obtain ⟨s, hs, _⟩ := fld_str Try.underlying9 q2
        refine ⟨(z, s), fun _ => ⟨(hat 0 (by omega)).trans hz, ?_⟩⟩
        have h2 := (hat 1 (by omega)).trans hs
        rwa [Go.Deep.add_add] at h2
      · exact ⟨(0, ⟨#[]⟩), fun h => absurd h hk⟩
    have hch := fun k => Classical.choose_spec (hall k)
    have hget : ∀ k (hk : k < ((List.range len).map fun k => Classical.choose (hall k)).length), ((List.range len).map fun k => Classical.choose (hall k))[k] = Classical.choose (hall k) := fun k hk => by simp
    refine ⟨some a, (List.range len).map fun k => Classical.choose (hall k), cap, ?_, fun k hk => ?_, ?_⟩
    · rw [List.length_map, List.length_range]; exact get_of_take hcs
    · have hkl : k < len := by simpa using hk
      obtain ⟨h1, h2⟩ := hch k hkl
      refine ⟨a, rfl, ?_, ?_, ?_⟩
      · have := World.block_lt_of_cell? W _ h1
        rwa [block_add] at this
      · rw [hget k hk]; exact h1
      · rw [hget k hk, ← h2]
        unfold Addr.add
        split
        · rename_i e; simp; rw [show k * 2 + 1 = 1 from by omega]
        · simp [Nat.add_assoc]
    · rw [List.length_map, List.length_range]; unfold maxLen at hm; omega

set_option maxRecDepth 10000 in
theorem open_msg {v : Value} {d : DataW H} {p : List MemPlace} {r : Reach} {b0 : Nat} (hval : Value.okWide Try.prog W r b0 TM v) (k : DataW.Trod enc Try.prog W 0 (fun _ => true) true TM v d p) :
    ∃ (m : Msg) (A : Option Addr) (c : Nat), v = m.val (.slice A m.ents.length c) ∧ EArg W W.heap.size A m.ents ∧ m.ents.length ≤ 9223372036854775807 ∧ m.kind < 256 ∧ m.op < 256 := by
  obtain ⟨cs, rfl, hsz⟩ := okWide_struct Try.underlying28 hval
  obtain ⟨l⟩ := cs
  obtain ⟨fuel, hf⟩ := k
  rw [show Try.prog.cellsOf TM = 22 from by kernel_rfl] at hsz
  have hf : DataW.trod enc Try.prog W 0 (fun _ => true) true fuel TM l = some (d, p) := hf
  have hM := Try.underlying28
  obtain ⟨_, _, q0⟩ := fld hM hf 0 _ rfl 5 0 1 rfl rfl (by kernel_rfl)
  obtain ⟨z0, e0, w0⟩ := fld_int Try.underlying5 q0
  obtain ⟨_, _, q1⟩ := fld hM hf 1 _ rfl 3 1 1 rfl rfl (by kernel_rfl)
  obtain ⟨z1, e1, w1⟩ := fld_int Try.underlying3 q1
  obtain ⟨_, _, q2⟩ := fld hM hf 2 _ rfl 3 2 1 rfl rfl (by kernel_rfl)
  obtain ⟨z2, e2, w2⟩ := fld_int Try.underlying3 q2
  obtain ⟨_, _, q3⟩ := fld hM hf 3 _ rfl 3 3 1 rfl rfl (by kernel_rfl)
  obtain ⟨z3, e3, w3⟩ := fld_int Try.underlying3 q3
  obtain ⟨_, _, q4⟩ := fld hM hf 4 _ rfl 3 4 1 rfl rfl (by kernel_rfl)
  obtain ⟨z4, e4, w4⟩ := fld_int Try.underlying3 q4
  obtain ⟨_, _, q5⟩ := fld hM hf 5 _ rfl 3 5 1 rfl rfl (by kernel_rfl)
  obtain ⟨z5, e5, w5⟩ := fld_int Try.underlying3 q5
  obtain ⟨_, _, q6⟩ := fld hM hf 6 _ rfl 3 6 1 rfl rfl (by kernel_rfl)
  obtain ⟨z6, e6, w6⟩ := fld_int Try.underlying3 q6
  obtain ⟨_, _, q7⟩ := fld hM hf 7 _ rfl 3 7 1 rfl rfl (by kernel_rfl)
  obtain ⟨z7, e7, w7⟩ := fld_int Try.underlying3 q7
  obtain ⟨_, _, q8⟩ := fld hM hf 8 _ rfl 4 8 1 rfl rfl (by kernel_rfl)
  obtain ⟨z8, e8⟩ := fld_bool Try.underlying4 q8
  obtain ⟨_, _, q9⟩ := fld hM hf 9 _ rfl 23 9 1 rfl rfl (by kernel_rfl)
  obtain ⟨A, es, c, e9, he, hn⟩ := fld_ents q9
  obtain ⟨_, _, q10⟩ := fld hM hf 10 _ rfl 3 10 1 rfl rfl (by kernel_rfl)
  obtain ⟨z10, e10, w10⟩ := fld_int Try.underlying3 q10
  obtain ⟨_, _, q11⟩ := fld hM hf 11 _ rfl 3 11 1 rfl rfl (by kernel_rfl)
  obtain ⟨z11, e11, w11⟩ := fld_int Try.underlying3 q11
  obtain ⟨_, _, q12⟩ := fld hM hf 12 _ rfl 9 12 1 rfl rfl (by kernel_rfl)
  obtain ⟨z12, e12, w12⟩ := fld_str Try.underlying9 q12
  obtain ⟨_, _, q13⟩ := fld hM hf 13 _ rfl 3 13 1 rfl rfl (by kernel_rfl)
  obtain ⟨z13, e13, w13⟩ := fld_int Try.underlying3 q13
  obtain ⟨_, _, qF⟩ := fld hM hf 14 _ rfl 25 14 2 rfl rfl (by kernel_rfl)
  obtain ⟨_, _, q14⟩ := fld Try.underlying25 qF 0 _ rfl 3 0 1 rfl rfl (by kernel_rfl)
  obtain ⟨z14, e14', w14⟩ := fld_int Try.underlying3 q14
  have e14 : l[14]? = some (.int .i64 z14) := by rw [List.getElem?_take, if_pos (by omega), List.getElem?_drop] at e14'; exact e14'
  obtain ⟨_, _, q15⟩ := fld Try.underlying25 qF 1 _ rfl 3 1 1 rfl rfl (by kernel_rfl)
  obtain ⟨z15, e15', w15⟩ := fld_int Try.underlying3 q15
  have e15 : l[15]? = some (.int .i64 z15) := by rw [List.getElem?_take, if_pos (by omega), List.getElem?_drop] at e15'; exact e15'
  obtain ⟨_, _, q16⟩ := fld hM hf 15 _ rfl 3 16 1 rfl rfl (by kernel_rfl)
  obtain ⟨z16, e16, w16⟩ := fld_int Try.underlying3 q16
  obtain ⟨_, _, q17⟩ := fld hM hf 16 _ rfl 3 17 1 rfl rfl (by kernel_rfl)
  obtain ⟨z17, e17, w17⟩ := fld_int Try.underlying3 q17
  obtain ⟨_, _, q18⟩ := fld hM hf 17 _ rfl 3 18 1 rfl rfl (by kernel_rfl)
  obtain ⟨z18, e18, w18⟩ := fld_int Try.underlying3 q18
  obtain ⟨_, _, q19⟩ := fld hM hf 18 _ rfl 5 19 1 rfl rfl (by kernel_rfl)
  obtain ⟨z19, e19, w19⟩ := fld_int Try.underlying5 q19
  obtain ⟨_, _, q20⟩ := fld hM hf 19 _ rfl 26 20 1 rfl rfl (by kernel_rfl)
  obtain ⟨z20, e20, w20⟩ := fld_int Try.underlying26 q20
  obtain ⟨_, _, q21⟩ := fld hM hf 20 _ rfl 3 21 1 rfl rfl (by kernel_rfl)
  obtain ⟨z21, e21, w21⟩ := fld_int Try.underlying3 q21
  obtain ⟨k0, rfl, hk0⟩ := nat_u8 w0
  obtain ⟨k19, rfl, hk19⟩ := nat_u8 w19
  refine ⟨⟨k0, fun k => [z1, z2, z3, z4, z5, z6, z7, z10, z11, z13, z14, z15, z16, z17, z18].getD k 0, z8, k19, z20, z21, z12, es⟩, A, c, ?_, he, hn, hk0, hk19⟩
  have hl : l.length = 22 := hsz
  match l, hl with
  | [c0, c1, c2, c3, c4, c5, c6, c7, c8, c9, c10, c11, c12, c13, c14, c15, c16, c17, c18, c19, c20, c21], _ =>
    simp only [List.getElem?_cons_succ, List.getElem?_cons_zero, Option.some.injEq] at e0 e1 e2 e3 e4 e5 e6 e7 e8 e9 e10 e11 e12 e13 e14 e15 e16 e17 e18 e19 e20 e21
    subst e0 e1 e2 e3 e4 e5 e6 e7 e8 e9 e10 e11 e12 e13 e14 e15 e16 e17 e18 e19 e20 e21
    rfl
end

end Go.Proofs.Ytbapifbahhjfgaa
