/- Tree tells a tree or an error; a tree and its spot in memory. -/
import Derived.Test.YtfhggnbnbopkkaaDoorPatTop
namespace Go.Proofs.YtfhggnbnbopkkaaDoor
open Go.RowKit PM

/-- a tree and its spot lie there -/
structure TrAt (W : World) (B : Nat) (t : T) (K : Value) : Prop where
  node : W.heap[B]? = some (.cells (nodeC t K).toArray TN (0, 0))
  spot : W.heap[B + 1]? = some (.cells #[.int .i64 0, .int .i64 0] TSp (0, 0))
  tree : IsT W (fun _ => True) K t
theorem TrAt.on {W W' : World} {B : Nat} {t : T} {K : Value} (h : TrAt W B t K) (hb : Below W.heap.size W W') : TrAt W' B t K :=
  ⟨(hb.block _ (lt_of_block h.node)).trans h.node, (hb.block _ (lt_of_block h.spot)).trans h.spot, h.tree.on hb⟩
theorem TrAt.made {w : World} {p : Nat → Prop} {t : T} {K : Value} (h : IsT w p K t) :
    TrAt ((w.alloc (.cells #[.int .i64 t.op, .int .u64 (word t.set 0), .int .u64 (word t.set 1), .int .u64 (word t.set 2), .int .u64 (word t.set 3), K] TN)).alloc (.cells #[.int .i64 0, .int .i64 0] TSp)) w.heap.size t K ∧
    Below w.heap.size w ((w.alloc (.cells #[.int .i64 t.op, .int .u64 (word t.set 0), .int .u64 (word t.set 1), .int .u64 (word t.set 2), .int .u64 (word t.set 3), K] TN)).alloc (.cells #[.int .i64 0, .int .i64 0] TSp)) := by
  have b1 := below_new w (.cells #[.int .i64 t.op, .int .u64 (word t.set 0), .int .u64 (word t.set 1), .int .u64 (word t.set 2), .int .u64 (word t.set 3), K] TN)
  have b2 := below_new (w.alloc (.cells #[.int .i64 t.op, .int .u64 (word t.set 0), .int .u64 (word t.set 1), .int .u64 (word t.set 2), .int .u64 (word t.set 3), K] TN)) (.cells #[.int .i64 0, .int .i64 0] TSp)
  have h1 := heap_alloc_new w (.cells #[.int .i64 t.op, .int .u64 (word t.set 0), .int .u64 (word t.set 1), .int .u64 (word t.set 2), .int .u64 (word t.set 3), K] TN)
  have h2 := heap_alloc_new (w.alloc (.cells #[.int .i64 t.op, .int .u64 (word t.set 0), .int .u64 (word t.set 1), .int .u64 (word t.set 2), .int .u64 (word t.set 3), K] TN)) (.cells #[.int .i64 0, .int .i64 0] TSp)
  simp only [World.size_alloc] at b2 h2
  have hb := b1.trans (b2.mono (by omega))
  exact ⟨⟨(b2.block _ (by omega)).trans h1, h2, (h.on hb).imp fun _ _ _ => trivial⟩, hb⟩
theorem two_below (w : World) (x y : Obj) : Below w.heap.size w ((w.alloc x).alloc y) := below_then (below_new w x) (below_new _ _) (Nat.le_refl _)
/-- what is read of it -/
theorem TrAt.cells {W : World} {B : Nat} {t : T} {K : Value} (h : TrAt W B t K) : W.cell? ⟨B, 0, none⟩ = some (.int .i64 t.op) ∧ W.cell? ⟨B, 1, none⟩ = some (.int .u64 (word t.set 0)) ∧ W.cell? ⟨B, 2, none⟩ = some (.int .u64 (word t.set 1)) ∧
    W.cell? ⟨B, 3, none⟩ = some (.int .u64 (word t.set 2)) ∧ W.cell? ⟨B, 4, none⟩ = some (.int .u64 (word t.set 3)) ∧ W.cell? ⟨B, 5, none⟩ = some K := by
  refine ⟨?_, ?_, ?_, ?_, ?_, ?_⟩ <;> (rw [cell_of_row _ _ _ _ _ _ h.node]; rfl)
theorem TrAt.err {W : World} {B : Nat} {t : T} {K : Value} (h : TrAt W B t K) : W.cell? ⟨B + 1, 0, none⟩ = some (.int .i64 0) ∧ W.cell? ⟨B + 1, 1, none⟩ = some (.int .i64 0) := by
  refine ⟨?_, ?_⟩ <;> (rw [cell_of_row _ _ _ _ _ _ h.spot]; rfl)
/-- Tree: a tree, or an error -/
theorem tree_or (kind : Int) (s : ByteArray) (w : World) (hs : s.size ≤ 9223372036854775807) :
    Calls Tryd.prog 34 #[.agg #[.int .i64 kind, .string s]] w fun e w' =>
      (∃ t A c, tree kind s.data.toList = .ok t ∧ e = .returned (.tuple #[.agg #[.int .i64 t.op, .int .u64 (word t.set 0), .int .u64 (word t.set 1), .int .u64 (word t.set 2), .int .u64 (word t.set 3), .slice A t.kids.length c], .agg #[.int .i64 0, .int .i64 0]]) ∧
        IsT w' (fun b => w.heap.size ≤ b) (.slice A t.kids.length c) t ∧ Below w.heap.size w w') ∨
      (∃ x k : Nat, (x = 2 ∨ x = 3 ∨ x = 6) ∧ (∀ t, tree kind s.data.toList ≠ .ok t) ∧ e = .returned (.tuple #[.agg #[.int .i64 0, .int .u64 0, .int .u64 0, .int .u64 0, .int .u64 0, .slice none 0 0], .agg #[.int .i64 x, .int .i64 k]]) ∧ Below w.heap.size w w') := by
  refine (tree_any kind s w hs).mono fun e w' h => ?_
  cases hr : tree kind s.data.toList with
  | ok t =>
    rw [hr] at h
    obtain ⟨K, rfl, hK, hb⟩ := h
    obtain ⟨A, c, rfl⟩ := hK.slice
    exact .inl ⟨t, A, c, rfl, rfl, hK, hb⟩
  | arg => rw [hr] at h; obtain ⟨rfl, hb⟩ := h; exact .inr ⟨2, 0, .inl rfl, (by intro t e; cases e), rfl, hb⟩
  | long => rw [hr] at h; obtain ⟨rfl, hb⟩ := h; exact .inr ⟨3, 64, .inr (.inl rfl), (by intro t e; cases e), rfl, hb⟩
  | bad k => rw [hr] at h; obtain ⟨rfl, hb⟩ := h; exact .inr ⟨6, k, .inr (.inr rfl), (by intro t e; cases e), rfl, hb⟩

/-- a spot lies there -/
theorem spot_made (w : World) (o : Obj) (X : Array Value) : ((w.alloc o).alloc (.cells X TSp)).heap[w.heap.size + 1]? = some (.cells X TSp (0, 0)) := by
  have h := heap_alloc_new (w.alloc o) (.cells X TSp)
  rw [World.size_alloc] at h
  exact h
theorem spot_cell {W : World} {b x k : Nat} (h : W.heap[b]? = some (.cells #[.int .i64 x, .int .i64 k] TSp (0, 0))) : W.cell? ⟨b, 0, none⟩ = some (.int .i64 x) := by
  rw [cell_of_row _ _ _ _ _ _ h]; rfl

theorem two_at (w : World) (X Y : Array Value) (t1 t2 : TypeId) : ((w.alloc (.cells X t1)).alloc (.cells Y t2)).heap[w.heap.size]? = some (.cells X t1 (0, 0)) ∧ ((w.alloc (.cells X t1)).alloc (.cells Y t2)).heap[w.heap.size + 1]? = some (.cells Y t2 (0, 0)) ∧ Below w.heap.size w ((w.alloc (.cells X t1)).alloc (.cells Y t2)) := by
  have h1 := heap_alloc_new w (.cells X t1)
  have h2 := heap_alloc_new (w.alloc (.cells X t1)) (.cells Y t2)
  rw [World.size_alloc] at h2
  have b2 := below_new (w.alloc (.cells X t1)) (.cells Y t2)
  exact ⟨(b2.block _ (by simp)).trans h1, h2, two_below w _ _⟩

end Go.Proofs.YtfhggnbnbopkkaaDoor
