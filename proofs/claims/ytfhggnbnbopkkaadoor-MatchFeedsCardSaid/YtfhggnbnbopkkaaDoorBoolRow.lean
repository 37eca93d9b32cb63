/- Rows of bools of one's own: made, read, stored. -/
import Derived.Test.YtfhggnbnbopkkaaDoorRowKit
import Derived.Deep.OwnRows
import Derived.Laws.Rows
namespace Go.Proofs.YtfhggnbnbopkkaaDoor
open Go.RowKit

abbrev TBo : TypeId := 4
def boolC (n : Nat) (f : Nat → Bool) : Array Value := ((List.range n).map fun k => Value.bool (f k)).toArray
/-- block b holds n bools, and nothing else -/
def BF (w : World) (b n : Nat) (f : Nat → Bool) : Prop := w.heap[b]? = some (.cells (boolC n f) TBo (0, 0))
theorem boolC_at {n i : Nat} (f : Nat → Bool) (h : i < n) : (boolC n f)[i]? = some (.bool (f i)) := by simp [boolC, h]
section
variable {w : World} {b n : Nat} {f : Nat → Bool}
theorem BF.cell (h : BF w b n f) {i : Nat} (hi : i < n) : w.cell? ⟨b, i, none⟩ = some (.bool (f i)) := by rw [cell_of_row w b i _ _ _ h, boolC_at f hi]
theorem BF.frozen (h : BF w b n f) (i : Nat) : w.frozen? ⟨b, i, none⟩ = false := frozen_of_row w b i _ _ h
theorem BF.lt (h : BF w b n f) : b < w.heap.size := lt_of_block h
theorem BF.on {w' : World} (h : BF w b n f) (hb : Below w.heap.size w w') : BF w' b n f := (hb.block b h.lt).trans h
theorem BF.grown {w' : World} (h : BF w b n f) {g : Option Nat} (hg : w.grownBy w' g) (hr : g ≠ some b) : BF w' b n f := (hg.block b h.lt (fun e => hr e.symm)).trans h
theorem BF.congr (h : BF w b n f) {g : Nat → Bool} (e : ∀ k, k < n → f k = g k) : BF w b n g := by
  unfold BF at *
  rw [h]
  have : boolC n f = boolC n g := by
    unfold boolC
    congr 1
    apply List.map_congr_left
    intro k hk
    rw [e k (List.mem_range.1 hk)]
  rw [this]
theorem BF.set (h : BF w b n f) (i : Nat) (v : Bool) : BF (w.setCell ⟨b, i, none⟩ (.bool v)) b n (fun k => if k = i then v else f k) := by
  have h2 := heap_setCell_same w b i _ _ (.bool v) h
  unfold BF
  rw [h2]
  have : (boolC n f).setIfInBounds i (.bool v) = boolC n (fun k => if k = i then v else f k) := by
    apply Array.ext
    · simp [boolC]
    · intro j h1 h2
      simp only [boolC, List.size_toArray, List.length_map, List.length_range, Array.size_setIfInBounds] at h1 h2
      rw [Array.getElem_setIfInBounds (by simpa [boolC] using h1)]
      by_cases hj : i = j
      · subst hj; simp [boolC]
      · rw [if_neg hj]; simp [boolC, Ne.symm hj]
  rw [this]
theorem BF.other (h : BF w b n f) (g i : Nat) (v : Value) (hg : g ≠ b) : BF (w.setCell ⟨g, i, none⟩ v) b n f := (Below.heap_setCell w ⟨g, i, none⟩ v b (Ne.symm hg)).trans h
end
theorem info_bool : (Tryd.prog.info? TBo).map (fun i => (i.zero, i.size, i.bytes)) = some (some (.bool false), 1, 1) := by kernel_rfl
theorem made_bools (n : Nat) : madeCells #[.bool false] n = boolC n (fun _ => false) := by
  apply Array.ext
  · simp [boolC, size_madeCells]
  · intro i h1 h2
    simp [madeCells, boolC, Nat.mod_one]
theorem make_bools (n : Nat) (m : Int) (hm : m = n) (hn : n ≤ 281474976710656) (w : World) :
    (Instr.makeSlice 73 (.int .i64 m) (.int .i64 m)).run Tryd.prog w = .ok (.slice (some ⟨w.heap.size, 0, none⟩) n n) (w.alloc (.cells (boolC n fun _ => false) TBo)) := by
  subst hm
  have h := run_make_row' (P := Tryd.prog) 73 TBo (.bool false) 1 Tryd.underlying73 info_bool rfl .i64 .i64 n (by omega) (by omega) w
  rw [made_bools] at h
  exact h
theorem BF.new (w : World) (n : Nat) (f : Nat → Bool) : BF (w.alloc (.cells (boolC n f) TBo)) w.heap.size n f := heap_alloc_new _ _
end Go.Proofs.YtfhggnbnbopkkaaDoor
