/- Groups (the table that PatternGroups makes): brackets around a regular pattern leave its tree as it is, and what stands around the brackets is put on top. -/
import Derived.Test.YtlfhjmdbkifciaaPatEscapes
namespace Go.Proofs.Ytlfhjmdbkifciaa
open Go.RowKit PM

/-- Tree: a tree, or an error -/
theorem tree_or (kind : Int) (s : ByteArray) (w : World) (hs : s.size ≤ 9223372036854775807) :
    Calls Try.prog 14 #[.agg #[.int .i64 kind, .string s]] w fun e w' =>
      (∃ t A c, tree kind s.data.toList = .ok t ∧ e = .returned (.tuple #[.agg #[.int .i64 t.op, .int .u64 (word t.set 0), .int .u64 (word t.set 1), .int .u64 (word t.set 2), .int .u64 (word t.set 3), .slice A t.kids.length c], .agg #[.int .i64 0, .int .i64 0]]) ∧
        IsT w' (fun b => w.heap.size ≤ b) (.slice A t.kids.length c) t ∧ Below w.heap.size w w') ∨
      (∃ x k : Nat, (x = 2 ∨ x = 3 ∨ x = 6) ∧ (∀ t, tree kind s.data.toList ≠ .ok t) ∧ e = .returned (.tuple #[.agg #[.int .i64 0, .int .u64 0, .int .u64 0, .int .u64 0, .int .u64 0, .slice none 0 0], .agg #[.int .i64 x, .int .i64 k]]) ∧ Below w.heap.size w w') := by
  refine (tree_any kind s w hs).mono fun e w' h => ?_
  cases hr : tree kind s.data.toList with
  | ok t =>
    rw [hr] at h
    obtain ⟨K, rfl, hK, hb⟩ := h
    obtain ⟨A, c, rfl⟩ := hK.slice
    exact .inl ⟨t, A, c, rfl, rfl, hK, hb⟩
  | arg => rw [hr] at h; obtain ⟨rfl, hb⟩ := h; exact .inr ⟨2, 0, .inl rfl, (by intro t e; cases e), rfl, hb⟩
  | long => rw [hr] at h; obtain ⟨rfl, hb⟩ := h; exact .inr ⟨3, 64, .inr (.inl rfl), (by intro t e; cases e), rfl, hb⟩
  | bad k => rw [hr] at h; obtain ⟨rfl, hb⟩ := h; exact .inr ⟨6, k, .inr (.inr rfl), (by intro t e; cases e), rfl, hb⟩

/-- a spot lies there -/
theorem spot_made (w : World) (o : Obj) (X : Array Value) : ((w.alloc o).alloc (.cells X TSp)).heap[w.heap.size + 1]? = some (.cells X TSp (0, 0)) := by
  have h := heap_alloc_new (w.alloc o) (.cells X TSp)
  rw [World.size_alloc] at h
  exact h
theorem spot_cell {W : World} {b x k : Nat} (h : W.heap[b]? = some (.cells #[.int .i64 x, .int .i64 k] TSp (0, 0))) : W.cell? ⟨b, 0, none⟩ = some (.int .i64 x) := by
  rw [cell_of_row _ _ _ _ _ _ h]; rfl

/-- a row of nodes of a call's own is a node's kids -/
theorem IsT.row {W : World} {p : Nat → Prop} {g : Nat} (cap op : Nat) (set : Nat → Bool) (ps : List (T × Value)) (hg : W.heap[g]? = some (.cells (rowC ps).toArray TN (0, 0))) (hp : ∀ q ∈ ps, IsT W p q.2 q.1) :
    IsT W (fun _ => True) (.slice (some ⟨g, 0, none⟩) ps.length cap) (.mk op set (ps.map (·.1))) := by
  have hks : ∀ i t, (ps.map (·.1))[i]? = some t → ∃ q : T × Value, ps[i]? = some q ∧ q.1 = t := fun i t ht => by
    rw [List.getElem?_map] at ht
    cases hq : ps[i]? with
    | none => rw [hq] at ht; simp at ht
    | some q => rw [hq] at ht; simp at ht; exact ⟨q, by first | exact hq | rfl, ht⟩
  have := IsT.mk (w := W) (p := fun _ => True) op set (ps.map (·.1)) (some ⟨g, 0, none⟩) cap (fun i => ((ps[i]?).map fun q : T × Value => q.2).getD undef) (fun _ => ⟨g, 0, rfl, trivial, lt_of_block hg, fun i t j v ht hv => by
      obtain ⟨q, hq, rfl⟩ := hks i t ht
      rw [hq] at hv
      rw [cell_of_row W g _ _ _ _ hg]
      have := rowC_get ps i q j v hq hv
      simpa using this⟩) (fun i t ht => by
      obtain ⟨q, hq, rfl⟩ := hks i t ht
      rw [hq]
      exact (hp q (List.mem_of_getElem? hq)).imp fun _ _ _ => trivial)
  rwa [List.length_map] at this

abbrev TMd : TypeId := 44
def nC (t : T) (K : Value) : List Value := [.int .i64 t.op, .int .u64 (word t.set 0), .int .u64 (word t.set 1), .int .u64 (word t.set 2), .int .u64 (word t.set 3), K]
/-- what the groups' table is made of -/
def gRow (a b : ByteArray) (t : T) (K : Value) (n : Nat) : Array Value :=
  #[Value.string ({ data := #[40] } ++ a ++ { data := #[41] }), .int .i64 t.op, .int .u64 (word t.set 0), .int .u64 (word t.set 1), .int .u64 (word t.set 2), .int .u64 (word t.set 3), K,
    Value.string ({ data := #[40] } ++ a ++ { data := #[41, 42] }), .int .i64 5, .int .u64 0, .int .u64 0, .int .u64 0, .int .u64 0, .slice (some ⟨n, 0, none⟩) 1 1,
    Value.string ({ data := #[40] } ++ a ++ { data := #[41, 43] }), .int .i64 6, .int .u64 0, .int .u64 0, .int .u64 0, .int .u64 0, .slice (some ⟨n + 1, 0, none⟩) 1 1,
    Value.string ({ data := #[40] } ++ a ++ { data := #[41, 63] }), .int .i64 7, .int .u64 0, .int .u64 0, .int .u64 0, .int .u64 0, .slice (some ⟨n + 1 + 1, 0, none⟩) 1 1,
    Value.string ({ data := #[40] } ++ a ++ { data := #[41, 40] } ++ b ++ { data := #[41] }), .int .i64 3, .int .u64 0, .int .u64 0, .int .u64 0, .int .u64 0, .slice (some ⟨n + 1 + 1 + 1, 0, none⟩) 2 2,
    Value.string ({ data := #[40] } ++ a ++ { data := #[41, 124, 40] } ++ b ++ { data := #[41] }), .int .i64 4, .int .u64 0, .int .u64 0, .int .u64 0, .int .u64 0, .slice (some ⟨n + 1 + 1 + 1 + 1, 0, none⟩) 2 2]
def gW (a b : ByteArray) (t u : T) (K J : Value) (w : World) : World :=
  (((((w.alloc (.cells (nC t K).toArray TN)).alloc (.cells (nC t K).toArray TN)).alloc (.cells (nC t K).toArray TN)).alloc (.cells (nC t K ++ nC u J).toArray TN)).alloc (.cells (nC t K ++ nC u J).toArray TN)).alloc (.cells (gRow a b t K w.heap.size) TMd)

theorem z_40 : (ByteArray.mk #[40]).size = 1 := rfl
theorem z_41 : (ByteArray.mk #[41]).size = 1 := rfl
theorem z_42 : (ByteArray.mk #[41, 42]).size = 2 := rfl
theorem z_43 : (ByteArray.mk #[41, 43]).size = 2 := rfl
theorem z_63 : (ByteArray.mk #[41, 63]).size = 2 := rfl
theorem z_4140 : (ByteArray.mk #[41, 40]).size = 2 := rfl
theorem z_4112440 : (ByteArray.mk #[41, 124, 40]).size = 3 := rfl
/-- an entry of the table: a text, and what its tree is to be -/
structure GE (W : World) (M i : Nat) (S : ByteArray) (t : T) (A : Option Addr) (c : Nat) : Prop where
  text : W.cell? ⟨M, i * 7, none⟩ = some (.string S)
  node : ∀ j v, (nC t (.slice A t.kids.length c))[j]? = some v → W.cell? ⟨M, i * 7 + 1 + j, none⟩ = some v
  tree : tree 3 S.data.toList = .ok t
  lies : IsT W (fun _ => True) (.slice A t.kids.length c) t
  ok : T.OK 100 t
  size : S.size ≤ 64
theorem GE.on {W W' : World} {M i : Nat} {S : ByteArray} {t : T} {A : Option Addr} {c : Nat} (h : GE W M i S t A c) (hb : Below W.heap.size W W') : GE W' M i S t A c :=
  ⟨cell_below h.text hb, fun j v hv => cell_below (h.node j v hv) hb, h.tree, h.lies.on hb, h.ok, h.size⟩
def GT (W : World) (M : Nat) : Prop := ∀ i, i < 6 → ∃ S t A c, GE W M i S t A c
theorem GT.on {W W' : World} {M : Nat} (h : GT W M) (hb : Below W.heap.size W W') : GT W' M := fun i hi => by
  obtain ⟨S, t, A, c, g⟩ := h i hi
  exact ⟨S, t, A, c, g.on hb⟩

theorem gW_ok (a b : ByteArray) (t u : T) (A A' : Option Addr) (c c' : Nat) (w : World) (hl : a.size + b.size + 5 ≤ 64) (ht : tree 3 a.data.toList = .ok t) (hu : tree 3 b.data.toList = .ok u) {p q : Nat → Prop}
    (hK : IsT w p (.slice A t.kids.length c) t) (hJ : IsT w q (.slice A' u.kids.length c') u) :
    GT (gW a b t u (.slice A t.kids.length c) (.slice A' u.kids.length c') w) (w.heap.size + 5) ∧ Below w.heap.size w (gW a b t u (.slice A t.kids.length c) (.slice A' u.kids.length c') w) := by
  obtain ⟨K, hKe⟩ : ∃ K, Value.slice A t.kids.length c = K := ⟨_, rfl⟩
  obtain ⟨J, hJe⟩ : ∃ J, Value.slice A' u.kids.length c' = J := ⟨_, rfl⟩
  rw [hKe] at hK ⊢; rw [hJe] at hJ ⊢
  have hal : a.data.toList.length = a.size := rfl
  have hbl : b.data.toList.length = b.size := rfl
  obtain ⟨W, hW⟩ : ∃ W, gW a b t u K J w = W := ⟨_, rfl⟩
  have facts : W.heap[w.heap.size]? = some (.cells (rowC [(t, K)]).toArray TN (0, 0)) ∧ W.heap[w.heap.size + 1]? = some (.cells (rowC [(t, K)]).toArray TN (0, 0)) ∧ W.heap[w.heap.size + 1 + 1]? = some (.cells (rowC [(t, K)]).toArray TN (0, 0)) ∧
      W.heap[w.heap.size + 1 + 1 + 1]? = some (.cells (rowC [(t, K), (u, J)]).toArray TN (0, 0)) ∧ W.heap[w.heap.size + 1 + 1 + 1 + 1]? = some (.cells (rowC [(t, K), (u, J)]).toArray TN (0, 0)) ∧ W.heap[w.heap.size + 5]? = some (.cells (gRow a b t K w.heap.size) TMd (0, 0)) ∧ Below w.heap.size w W := by
    subst hW
    have b1 := below_new w (.cells (nC t K).toArray TN)
    have n1 := heap_alloc_new w (.cells (nC t K).toArray TN)
    obtain ⟨w1, hw1⟩ : ∃ w1, w.alloc (.cells (nC t K).toArray TN) = w1 := ⟨_, rfl⟩
    have s1 : w1.heap.size = w.heap.size + 1 := by rw [← hw1]; simp
    have b2 := below_new w1 (.cells (nC t K).toArray TN)
    have n2 := heap_alloc_new w1 (.cells (nC t K).toArray TN)
    obtain ⟨w2, hw2⟩ : ∃ w2, w1.alloc (.cells (nC t K).toArray TN) = w2 := ⟨_, rfl⟩
    have s2 : w2.heap.size = w.heap.size + 2 := by rw [← hw2]; simp [s1]
    have b3 := below_new w2 (.cells (nC t K).toArray TN)
    have n3 := heap_alloc_new w2 (.cells (nC t K).toArray TN)
    obtain ⟨w3, hw3⟩ : ∃ w3, w2.alloc (.cells (nC t K).toArray TN) = w3 := ⟨_, rfl⟩
    have s3 : w3.heap.size = w.heap.size + 3 := by rw [← hw3]; simp [s2]
    have b4 := below_new w3 (.cells (nC t K ++ nC u J).toArray TN)
    have n4 := heap_alloc_new w3 (.cells (nC t K ++ nC u J).toArray TN)
    obtain ⟨w4, hw4⟩ : ∃ w4, w3.alloc (.cells (nC t K ++ nC u J).toArray TN) = w4 := ⟨_, rfl⟩
    have s4 : w4.heap.size = w.heap.size + 4 := by rw [← hw4]; simp [s3]
    have b5 := below_new w4 (.cells (nC t K ++ nC u J).toArray TN)
    have n5 := heap_alloc_new w4 (.cells (nC t K ++ nC u J).toArray TN)
    obtain ⟨w5, hw5⟩ : ∃ w5, w4.alloc (.cells (nC t K ++ nC u J).toArray TN) = w5 := ⟨_, rfl⟩
    have s5 : w5.heap.size = w.heap.size + 5 := by rw [← hw5]; simp [s4]
    have b6 := below_new w5 (.cells (gRow a b t K w.heap.size) TMd)
    have n6 := heap_alloc_new w5 (.cells (gRow a b t K w.heap.size) TMd)
    have hg : gW a b t u K J w = w5.alloc (.cells (gRow a b t K w.heap.size) TMd) := by unfold gW; rw [hw1, hw2, hw3, hw4, hw5]
    rw [hg]
    rw [hw1] at b1 n1; rw [hw2] at b2 n2; rw [hw3] at b3 n3; rw [hw4] at b4 n4; rw [hw5] at b5 n5
    rw [s1] at b2 n2; rw [s2] at b3 n3; rw [s3] at b4 n4; rw [s4] at b5 n5; rw [s5] at b6 n6
    have e2 : rowC [(t, K)] = nC t K := rfl
    have e3 : rowC [(t, K), (u, J)] = nC t K ++ nC u J := rfl
    rw [e2, e3]
    refine ⟨?_, ?_, ?_, ?_, ?_, n6, ?_⟩
    · exact (b6.block _ (by omega)).trans ((b5.block _ (by omega)).trans ((b4.block _ (by omega)).trans ((b3.block _ (by omega)).trans ((b2.block _ (by omega)).trans n1))))
    · exact (b6.block _ (by omega)).trans ((b5.block _ (by omega)).trans ((b4.block _ (by omega)).trans ((b3.block _ (by omega)).trans n2)))
    · exact (b6.block _ (by omega)).trans ((b5.block _ (by omega)).trans ((b4.block _ (by omega)).trans n3))
    · exact (b6.block _ (by omega)).trans ((b5.block _ (by omega)).trans n4)
    · exact (b6.block _ (by omega)).trans n5
    · exact b1.trans ((b2.mono (by omega)).trans ((b3.mono (by omega)).trans ((b4.mono (by omega)).trans ((b5.mono (by omega)).trans (b6.mono (by omega))))))
  rw [hW]
  clear hW
  obtain ⟨f1, f2, f3, f4, f5, fM, hB⟩ := facts
  have hK' := hK.on hB
  have hJ' := hJ.on hB
  have okt := (tree_ok ht).1
  have oku := (tree_ok hu).1
  have h1 : ∀ q ∈ [(t, K)], IsT W p q.2 q.1 := fun q hq => by rw [List.mem_singleton] at hq; subst hq; exact hK'
  have h2 : ∀ q ∈ [(t, K), (u, J)], IsT W (fun _ => True) q.2 q.1 := fun q hq => by
    simp only [List.mem_cons, List.not_mem_nil, or_false] at hq
    rcases hq with rfl | rfl
    · exact hK'.imp fun _ _ _ => trivial
    · exact hJ'.imp fun _ _ _ => trivial
  have ok2 : ∀ op, op = 3 ∨ op = 4 → T.OK 100 (.mk op noSet [t, u]) := fun op ho => .mk (fun h => by omega) (by simp) (fun k hk => by
    simp only [List.mem_cons, List.not_mem_nil, or_false] at hk
    rcases hk with rfl | rfl <;> assumption)
  have text : ∀ i S, (gRow a b t K w.heap.size)[i]? = some (.string S) → W.cell? ⟨w.heap.size + 5, i, none⟩ = some (.string S) := fun i S h => by rw [cell_of_row _ _ _ _ _ _ fM]; exact h
  have node : ∀ i j v, (gRow a b t K w.heap.size)[i + j]? = some v → W.cell? ⟨w.heap.size + 5, i + j, none⟩ = some v := fun i j v h => by rw [cell_of_row _ _ _ _ _ _ fM]; exact h
  have six : ∀ (P : Nat → Prop), P 0 → P 1 → P 2 → P 3 → P 4 → P 5 → ∀ j, j < 6 → P j := fun P h0 h1 h2 h3 h4 h5 j hj => by
    match j, hj with
    | 0, _ => exact h0
    | 1, _ => exact h1
    | 2, _ => exact h2
    | 3, _ => exact h3
    | 4, _ => exact h4
    | 5, _ => exact h5
  have nd : ∀ (i : Nat) (t' : T) (K' : Value), (∀ j, j < 6 → (gRow a b t K w.heap.size)[i + j]? = (nC t' K')[j]?) → ∀ j v, (nC t' K')[j]? = some v → W.cell? ⟨w.heap.size + 5, i + j, none⟩ = some v := fun i t' K' h j v hv => by
    have hj : j < (nC t' K').length := (List.getElem?_eq_some_iff.1 hv).1
    exact node i j v ((h j hj).trans hv)
  have hw0 : ∀ i, word noSet i = 0 := fun i => word_none i
  have tx : ∀ (A : ByteArray) (l : List UInt8), A.data.toList = l → ∀ t, PM.tree 3 l = .ok t → PM.tree 3 A.data.toList = .ok t := fun A l h t e => by rw [h]; exact e
  refine ⟨fun i hi => ?_, hB⟩
  match i, hi with
  | 0, _ =>
    exact ⟨_, t, A, c, text 0 _ rfl, nd 1 t _ (six _ rfl rfl rfl rfl rfl (by rw [hKe]; rfl)), tx _ _ (by simp) _ (group_plain ht (by omega)), by rw [hKe]; exact hK'.imp fun _ _ _ => trivial, okt, by simp only [ByteArray.size_append, z_40, z_41, z_42, z_43, z_63, z_4140, z_4112440]; omega⟩
  | 1, _ =>
    exact ⟨_, over 5 t, _, 1, text 7 _ rfl, nd 8 (over 5 t) _ (six _ rfl (by simp [nC, over, T.set, hw0]; rfl) (by simp [nC, over, T.set, hw0]; rfl) (by simp [nC, over, T.set, hw0]; rfl) (by simp [nC, over, T.set, hw0]; rfl) rfl), tx _ _ (by simp) _ (group_sign ht (by omega) 42 5 (by decide)), IsT.row 1 5 noSet [(t, K)] f1 h1, over_ok (by omega) okt, by simp only [ByteArray.size_append, z_40, z_41, z_42, z_43, z_63, z_4140, z_4112440]; omega⟩
  | 2, _ =>
    exact ⟨_, over 6 t, _, 1, text 14 _ rfl, nd 15 (over 6 t) _ (six _ rfl (by simp [nC, over, T.set, hw0]; rfl) (by simp [nC, over, T.set, hw0]; rfl) (by simp [nC, over, T.set, hw0]; rfl) (by simp [nC, over, T.set, hw0]; rfl) rfl), tx _ _ (by simp) _ (group_sign ht (by omega) 43 6 (by decide)), IsT.row 1 6 noSet [(t, K)] f2 h1, over_ok (by omega) okt, by simp only [ByteArray.size_append, z_40, z_41, z_42, z_43, z_63, z_4140, z_4112440]; omega⟩
  | 3, _ =>
    exact ⟨_, over 7 t, _, 1, text 21 _ rfl, nd 22 (over 7 t) _ (six _ rfl (by simp [nC, over, T.set, hw0]; rfl) (by simp [nC, over, T.set, hw0]; rfl) (by simp [nC, over, T.set, hw0]; rfl) (by simp [nC, over, T.set, hw0]; rfl) rfl), tx _ _ (by simp) _ (group_sign ht (by omega) 63 7 (by decide)), IsT.row 1 7 noSet [(t, K)] f3 h1, over_ok (by omega) okt, by simp only [ByteArray.size_append, z_40, z_41, z_42, z_43, z_63, z_4140, z_4112440]; omega⟩
  | 4, _ =>
    exact ⟨_, .mk 3 noSet [t, u], _, 2, text 28 _ rfl, nd 29 (.mk 3 noSet [t, u]) _ (six _ rfl (by simp [nC, T.set, hw0]; rfl) (by simp [nC, T.set, hw0]; rfl) (by simp [nC, T.set, hw0]; rfl) (by simp [nC, T.set, hw0]; rfl) rfl), tx _ _ (by simp) _ (group_cat ht hu (by omega)), IsT.row 2 3 noSet [(t, K), (u, J)] f4 h2, ok2 3 (.inl rfl), by simp only [ByteArray.size_append, z_40, z_41, z_42, z_43, z_63, z_4140, z_4112440]; omega⟩
  | 5, _ =>
    exact ⟨_, .mk 4 noSet [t, u], _, 2, text 35 _ rfl, nd 36 (.mk 4 noSet [t, u]) _ (six _ rfl (by simp [nC, T.set, hw0]; rfl) (by simp [nC, T.set, hw0]; rfl) (by simp [nC, T.set, hw0]; rfl) (by simp [nC, T.set, hw0]; rfl) rfl), tx _ _ (by simp) _ (group_alt ht hu (by omega)), IsT.row 2 4 noSet [(t, K), (u, J)] f5 h2, ok2 4 (.inr rfl), by simp only [ByteArray.size_append, z_40, z_41, z_42, z_43, z_63, z_4140, z_4112440]; omega⟩

end Go.Proofs.Ytlfhjmdbkifciaa
