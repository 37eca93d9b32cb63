/- Happenings, and what is done, that came in. -/
import Derived.Test.YtlddeagolhdieaaHubAdd
import Derived.Test.YtlddeagolhdieaaRowKit
import Derived.Deep.Slices
import Derived.OpenShut
import Derived.ProofKit
import Derived.SizedLaws
namespace Go.Proofs.Ytlddeagolhdieaa
open Go.ChangeShapes Go.WideShapes Go.RowKit Go.Deep

theorem weights_all {H : Type} {P : Program} {e : TypeId} : ∀ (ds : List (DataW H)) (d : DataW H), d ∈ ds → ∀ m ∈ d.weights P e, m ∈ DataW.weightsAll P e ds
  | [], d, h => by simp at h
  | a :: r, d, h => fun m hm => by
    simp only [DataW.weightsAll, List.mem_append]
    rcases List.mem_cons.1 h with rfl | h
    · exact .inl hm
    · exact .inr (weights_all r d h m hm)

section
variable {H : Type} {enc : TypeId × Value → H} {P : Program} {W : World}
theorem get_of_take {cs : List Value} {j : Nat} {v : Value} (h : (cs.drop j).take 1 = [v]) : cs[j]? = some v := by
  have h1 : ((cs.drop j).take 1)[0]? = some v := by rw [h]; rfl
  rw [List.getElem?_take, if_pos (by omega), List.getElem?_drop] at h1
  simpa using h1
/-- one field of a struct that came in, with its weights -/
theorem fldw {t : TypeId} {fs : Array Field} {fuel : Nat} {cs : List Value} {x : DataW H × List MemPlace} (hs : P.underlying t = some (.struct fs)) (h : DataW.trod enc P W 0 (fun _ => true) true fuel t cs = some x)
    (hw : ∀ m ∈ x.1.weights P t, m ≤ 140737488351232) (i : Nat) (f : Field) (hf : fs[i]? = some f) (ti o c : Nat) (ht : f.type = ti) (ho : f.offset = o) (hc : P.cellsOf ti = c) :
    ∃ n y, DataW.trod enc P W 0 (fun _ => true) true n ti ((cs.drop o).take c) = some y ∧ ∀ m ∈ y.1.weights P ti, m ≤ 140737488351232 := by
  obtain ⟨xs, n, _, hx, _, hlen, hg⟩ := DataW.trod_struct hs h
  have hi : i < fs.size := (Array.getElem?_eq_some_iff.1 hf).1
  have q := hg i f hf
  rw [ht, ho, hc, List.getElem?_eq_getElem (by omega)] at q
  refine ⟨n, _, q, fun m hm => hw m ?_⟩
  rw [hx]
  simp only [DataW.weights, hs]
  refine DataW.weights_mem_each (j := i) (t := ti) ?_ ?_ m hm
  · rw [List.getElem?_map, Array.getElem?_toList, hf]; simp [ht]
  · rw [List.getElem?_map, List.getElem?_eq_getElem (by omega)]; rfl
theorem fld_int {cs : List Value} {n j ti : Nat} {k : IntKind} {y : DataW H × List MemPlace} (hti : P.underlying ti = some (.int k)) (h : DataW.trod enc P W 0 (fun _ => true) true n ti ((cs.drop j).take 1) = some y) :
    ∃ z : Int, cs[j]? = some (.int k z) ∧ (Lit.int k z).wf = true := by
  obtain ⟨z, hz, _, hw⟩ := DataW.trod_int hti h
  exact ⟨z, get_of_take hz, hw⟩
theorem fld_str {cs : List Value} {n j ti : Nat} {y : DataW H × List MemPlace} (hti : P.underlying ti = some .string) (h : DataW.trod enc P W 0 (fun _ => true) true n ti ((cs.drop j).take 1) = some y) : ∃ z : ByteArray, cs[j]? = some (.string z) ∧ z.size ≤ maxLen := by
  obtain ⟨z, hz, _, hw⟩ := DataW.trod_string hti h
  exact ⟨z, get_of_take hz, hw⟩
end

/-- happenings that came in -/
structure HIn (W : World) (A : Option Addr) (l : List Hap) : Prop where
  nil : A = none → l = []
  at' : ∀ ad, A = some ad → (l ≠ [] → ad.block < W.heap.size) ∧ ∀ j u, (hapsC l)[j]? = some u → W.cell? (ad.add j) = some u
theorem add_block (ad : Addr) (j : Nat) : (ad.add j).block = ad.block := by unfold Addr.add; split <;> rfl
theorem HIn.on {W W' : World} {A : Option Addr} {l : List Hap} (h : HIn W A l) (hb : Below W.heap.size W W') : HIn W' A l :=
  ⟨h.nil, fun ad e => ⟨fun hn => Nat.lt_of_lt_of_le ((h.at' ad e).1 hn) hb.size, fun j u hu => by
    have hn : l ≠ [] := fun e0 => by rw [e0] at hu; cases hu
    exact (hb.cell (by rw [add_block]; exact (h.at' ad e).1 hn)).trans ((h.at' ad e).2 j u hu)⟩⟩
theorem HIn.src {W W' : World} {A : Option Addr} {l : List Hap} {b : Nat} (h : HIn W A l) (hb : Below W.heap.size W W') (hg : W.heap.size ≤ b) : Src W' b A l :=
  ⟨h.nil, fun ad e => ⟨fun hn e0 => by have := (h.at' ad e).1 hn; omega, fun j u hu => ((h.on hb).at' ad e).2 j u hu⟩⟩

section
variable {H : Type} {enc : TypeId × Value → H} {W : World}
theorem bytes_hap : Try.prog.bytesOf THp = 32 := by kernel_rfl
theorem cells_hap : Try.prog.cellsOf THp = 3 := by kernel_rfl
theorem hapsC_getp (l : List Hap) (j : Nat) (h : j < l.length * 3) : ∃ x, l[j / 3]? = some x ∧ (hapsC l)[j]? = (hapC x)[j % 3]? := by
  induction l generalizing j with
  | nil => simp at h
  | cons y r ih =>
    by_cases hj : j < 3
    · refine ⟨y, by rw [show j / 3 = 0 by omega]; rfl, ?_⟩
      rw [show hapsC (y :: r) = hapC y ++ hapsC r from rfl, List.getElem?_append_left (by simpa [hapC] using hj), Nat.mod_eq_of_lt hj]
    · obtain ⟨x, h1, h2⟩ := ih (j - 3) (by simp only [List.length_cons] at h; omega)
      refine ⟨x, ?_, ?_⟩
      · rw [show j / 3 = (j - 3) / 3 + 1 by omega]; simpa using h1
      · rw [show hapsC (y :: r) = hapC y ++ hapsC r from rfl, List.getElem?_append_right (by simp [hapC]; omega), show j - (hapC y).length = j - 3 by simp [hapC], h2, show (j - 3) % 3 = j % 3 by omega]
theorem fld_haps {cs : List Value} {n j : Nat} {y : DataW H × List MemPlace} (h : DataW.trod enc Try.prog W 0 (fun _ => true) true n THs ((cs.drop j).take 1) = some y) (hw : ∀ m ∈ y.1.weights Try.prog THs, m ≤ 140737488351232) :
    ∃ (A : Option Addr) (l : List Hap) (c : Nat), cs[j]? = some (.slice A l.length c) ∧ HIn W A l ∧ l.length ≤ 4398046511104 := by
  rcases open_slice Try.underlying27 h with ⟨hcs, _⟩ | ⟨a, len, cap, m, n', D, Pl, hcs, _, hl, hm, hmm, hx, hi⟩
  · exact ⟨none, [], 0, get_of_take hcs, ⟨fun _ => rfl, fun ad e => (by cases e)⟩, by simp⟩
  · simp only [if_true] at hmm
    rw [hx] at hw
    simp only [DataW.weights, Try.underlying27, List.mem_cons, List.mem_append] at hw
    have hwe : ∀ k, k < len → ∀ m ∈ (D k).weights Try.prog THp, m ≤ 140737488351232 := fun k hk m hm => hw m (.inr (.inl (weights_all _ (D k) (List.mem_map.2 ⟨k, List.mem_range.2 hk, rfl⟩) m hm)))
    have hwl := hw _ (.inl rfl)
    rw [bytes_hap, List.length_map, List.length_range, List.length_map, List.length_range] at hwl
    have hall : ∀ k, ∃ p : Hap, k < len → ∀ q u, (hapC p)[q]? = some u → W.cell? ((a.add (k * 3)).add q) = some u := by
      intro k
      by_cases hk : k < len
      · obtain ⟨cs', hc, ht'⟩ := hi k (by omega)
        rw [cells_hap] at hc
        obtain ⟨_, hcl, hat⟩ := World.cells?_some hc
        have hwk := hwe k hk
        obtain ⟨_, _, q0, _⟩ := fldw Try.underlying53 ht' hwk 0 _ rfl 3 0 1 rfl rfl (by kernel_rfl)
        obtain ⟨_, _, q1, _⟩ := fldw Try.underlying53 ht' hwk 1 _ rfl 9 1 1 rfl rfl (by kernel_rfl)
        obtain ⟨_, _, q2, _⟩ := fldw Try.underlying53 ht' hwk 2 _ rfl 3 2 1 rfl rfl (by kernel_rfl)
        obtain ⟨z, hz, _⟩ := fld_int Try.underlying3 q0
        obtain ⟨s, hs, _⟩ := fld_str Try.underlying9 q1
        obtain ⟨z2, hz2, _⟩ := fld_int Try.underlying3 q2
        refine ⟨⟨z, s, z2⟩, fun _ q u hu => ?_⟩
        rcases q with _ | _ | _ | q
        · cases hu
          have h0 := (hat 0 (by omega)).trans hz
          exact h0
        · cases hu; exact (hat 1 (by omega)).trans hs
        · cases hu; exact (hat 2 (by omega)).trans hz2
        · cases hu
      · exact ⟨⟨0, ByteArray.empty, 0⟩, fun h => absurd h hk⟩
    have hch := fun k => Classical.choose_spec (hall k)
    have hget : ∀ k (hk : k < ((List.range len).map fun k => Classical.choose (hall k)).length), ((List.range len).map fun k => Classical.choose (hall k))[k] = Classical.choose (hall k) := fun k hk => by simp
    have hlen : ((List.range len).map fun k => Classical.choose (hall k)).length = len := by rw [List.length_map, List.length_range]
    have hcell : ∀ q u, (hapsC ((List.range len).map fun k => Classical.choose (hall k)))[q]? = some u → W.cell? (a.add q) = some u := fun q u hu => by
      have hq : q < len * 3 := by
        have := (List.getElem?_eq_some_iff.1 hu).1
        rw [hapsC_len, hlen] at this; exact this
      obtain ⟨x, h1, h2⟩ := hapsC_getp _ q (by rw [hlen]; exact hq)
      rw [h2] at hu
      have hk : q / 3 < len := by omega
      rw [List.getElem?_eq_getElem (by rw [hlen]; exact hk), hget _ (by rw [hlen]; exact hk)] at h1
      cases h1
      have h3 := hch (q / 3) hk (q % 3) u hu
      rw [Go.Deep.add_add, show q / 3 * 3 + q % 3 = q by omega] at h3
      exact h3
    refine ⟨some a, (List.range len).map fun k => Classical.choose (hall k), cap, by rw [hlen]; exact get_of_take hcs, ⟨fun e => (by cases e), fun ad e => ?_⟩, by rw [hlen]; omega⟩
    cases e
    refine ⟨fun hn => ?_, hcell⟩
    have h0 : 0 < len := by
      rcases Nat.eq_zero_or_pos len with h0 | h0
      · subst h0; exact absurd rfl hn
      · exact h0
    have h1 := hch 0 h0 0 _ rfl
    have := World.block_lt_of_cell? W _ h1
    rwa [add_block, add_block] at this

/-- one thing that is done -/
structure Op5 where
  kind : Int
  talk : Int
  who : Int
  n : Int
  A : Option Addr
  l : List Hap
  c : Nat
structure OpAt (W : World) (ad : Addr) (o : Op5) : Prop where
  c0 : W.cell? ad = some (.int .i64 o.kind)
  c1 : W.cell? (ad.add 1) = some (.int .i64 o.talk)
  c2 : W.cell? (ad.add 2) = some (.int .i64 o.who)
  c3 : W.cell? (ad.add 3) = some (.int .i64 o.n)
  c4 : W.cell? (ad.add 4) = some (.slice o.A o.l.length o.c)
  hin : HIn W o.A o.l
  b1 : -9223372036854775808 ≤ o.talk ∧ o.talk ≤ 9223372036854775807
  b2 : -9223372036854775808 ≤ o.who ∧ o.who ≤ 9223372036854775807
  b3 : -9223372036854775808 ≤ o.n ∧ o.n ≤ 9223372036854775807
  b4 : o.l.length ≤ 4398046511104
def OpsIn (W : World) (A : Option Addr) (ops : List Op5) : Prop := ∀ k o, ops[k]? = some o → ∃ ad, A = some ad ∧ OpAt W (ad.add (k * 5)) o
theorem OpAt.on {W W' : World} {ad : Addr} {o : Op5} (h : OpAt W ad o) (hb : Below W.heap.size W W') : OpAt W' ad o := by
  have hl := World.block_lt_of_cell? W _ h.c0
  have hc : ∀ j, W'.cell? (ad.add j) = W.cell? (ad.add j) := fun j => hb.cell (by rw [add_block]; exact hl)
  exact ⟨(hb.cell hl).trans h.c0, (hc 1).trans h.c1, (hc 2).trans h.c2, (hc 3).trans h.c3, (hc 4).trans h.c4, h.hin.on hb, h.b1, h.b2, h.b3, h.b4⟩
set_option maxRecDepth 100000 in
theorem open_ops {v : Value} {d : DataW H} {p : List MemPlace} {r : Reach} {b0 : Nat} (hval : Value.okWide Try.prog W r b0 22 v) (k : DataW.Trod enc Try.prog W 0 (fun _ => true) true 22 v d p)
    (hw : ∀ m ∈ d.weights Try.prog 22, m ≤ 140737488351232) : ∃ (A : Option Addr) (c : Nat) (ops : List Op5), v = .slice A ops.length c ∧ OpsIn W A ops ∧ ops.length ≤ 9223372036854775807 := by
  obtain ⟨a0, len0, cap0, rfl⟩ := okWide_slice Try.underlying22 hval
  obtain ⟨fuel, hf⟩ := k
  rcases open_slice Try.underlying22 hf with ⟨hcs, hx⟩ | ⟨a, len, cap, m, n', D, Pl, hcs, _, hl, hm, hmm, hx, hi⟩
  · simp [Value.cells] at hcs
    obtain ⟨rfl, rfl, rfl⟩ := hcs
    exact ⟨none, 0, [], rfl, fun k o h => by simp at h, by simp⟩
  · simp [Value.cells] at hcs
    obtain ⟨rfl, rfl, rfl⟩ := hcs
    simp only [if_true] at hmm
    have hd : d = _ := congrArg Prod.fst hx
    rw [hd] at hw
    simp only [DataW.weights, Try.underlying22, List.mem_cons, List.mem_append] at hw
    have hwe : ∀ k, k < len0 → ∀ m ∈ (D k).weights Try.prog 36, m ≤ 140737488351232 := fun k hk m hm => hw m (.inr (.inl (weights_all _ (D k) (List.mem_map.2 ⟨k, List.mem_range.2 hk, rfl⟩) m hm)))
    have hall : ∀ k, ∃ o : Op5, k < len0 → OpAt W (a.add (k * 5)) o := by
      intro k
      by_cases hk : k < len0
      · obtain ⟨cs', hc, ht'⟩ := hi k (by omega)
        rw [show Try.prog.cellsOf 36 = 5 from by kernel_rfl] at hc
        obtain ⟨_, hcl, hat⟩ := World.cells?_some hc
        have hwk := hwe k hk
        have hU := Try.underlying36
        obtain ⟨_, _, q0, _⟩ := fldw hU ht' hwk 0 _ rfl 3 0 1 rfl rfl (by kernel_rfl)
        obtain ⟨_, _, q1, _⟩ := fldw hU ht' hwk 1 _ rfl 3 1 1 rfl rfl (by kernel_rfl)
        obtain ⟨_, _, q2, _⟩ := fldw hU ht' hwk 2 _ rfl 3 2 1 rfl rfl (by kernel_rfl)
        obtain ⟨_, _, q3, _⟩ := fldw hU ht' hwk 3 _ rfl 3 3 1 rfl rfl (by kernel_rfl)
        obtain ⟨_, _, q4, w4⟩ := fldw hU ht' hwk 4 _ rfl THs 4 1 rfl rfl (by kernel_rfl)
        obtain ⟨z0, e0, _⟩ := fld_int Try.underlying3 q0
        obtain ⟨z1, e1, f1⟩ := fld_int Try.underlying3 q1
        obtain ⟨z2, e2, f2⟩ := fld_int Try.underlying3 q2
        obtain ⟨z3, e3, f3⟩ := fld_int Try.underlying3 q3
        obtain ⟨A, l, c, e4, h4, n4⟩ := fld_haps q4 w4
        exact ⟨⟨z0, z1, z2, z3, A, l, c⟩, fun _ => ⟨(hat 0 (by omega)).trans e0, (hat 1 (by omega)).trans e1, (hat 2 (by omega)).trans e2, (hat 3 (by omega)).trans e3, (hat 4 (by omega)).trans e4, h4, bounds_i64 f1, bounds_i64 f2, bounds_i64 f3, n4⟩⟩
      · exact ⟨⟨0, 0, 0, 0, none, [], 0⟩, fun h => absurd h hk⟩
    have hch := fun k => Classical.choose_spec (hall k)
    have hlen : ((List.range len0).map fun k => Classical.choose (hall k)).length = len0 := by rw [List.length_map, List.length_range]
    refine ⟨some a, cap0, (List.range len0).map fun k => Classical.choose (hall k), by rw [hlen], fun k o hk => ?_, by rw [hlen]; unfold maxLen at hm; omega⟩
    have hkl : k < len0 := by have := (List.getElem?_eq_some_iff.1 hk).1; rwa [hlen] at this
    rw [List.getElem?_map, List.getElem?_range hkl] at hk
    cases hk
    exact ⟨a, rfl, hch k hkl⟩
end
end Go.Proofs.Ytlddeagolhdieaa
