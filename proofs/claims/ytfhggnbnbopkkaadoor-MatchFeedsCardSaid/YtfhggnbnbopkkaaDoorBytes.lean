/- Blocks of bytes: '[]byte(s)', 'make([]byte, n)', a byte stored, 'string(b)'. -/
import Derived.Test.YtfhggnbnbopkkaaDoorProg
import Derived.WalkKit
import Derived.WalkSpells
import Derived.WalkLawsBesides
import Derived.Lib.Hide
import Derived.Lib.ConvBytes
import Derived.Laws.BytesArg
import Derived.Deep.OwnRows
namespace Go.Proofs.YtfhggnbnbopkkaaDoor
open Go.RowKit

/-- block g holds the bytes l, then whatever; none of its cells is shut -/
def BRow (w : World) (g : Nat) (l : List UInt8) : Prop :=
  ∃ cs fr, w.heap[g]? = some (.cells cs 5 fr) ∧ (fr.2 ≤ fr.1 ∨ cs.size ≤ fr.1) ∧ l.length ≤ cs.size ∧ ∀ i, i < l.length → cs[i]? = some (.int .u8 (l.getD i 0).toNat)

theorem BRow.cell {w : World} {g : Nat} {l : List UInt8} (h : BRow w g l) {i : Nat} (hi : i < l.length) : w.cell? ⟨g, i, none⟩ = some (.int .u8 (l.getD i 0).toNat) := by
  obtain ⟨cs, fr, h1, _, _, h4⟩ := h
  rw [cell_of_row w g i cs _ fr h1]; exact h4 i hi
theorem BRow.frozen {w : World} {g : Nat} {l : List UInt8} (h : BRow w g l) {i : Nat} (hi : i < l.length) : w.frozen? ⟨g, i, none⟩ = false := by
  obtain ⟨cs, fr, h1, h2, h3, _⟩ := h
  simp [World.frozen?, h1]; omega
theorem BRow.set {w : World} {g : Nat} {l : List UInt8} (h : BRow w g l) (i : Nat) (c : UInt8) : BRow (w.setCell ⟨g, i, none⟩ (.int .u8 c.toNat)) g (l.set i c) := by
  obtain ⟨cs, fr, h1, h2, h3, h4⟩ := h
  refine ⟨cs.setIfInBounds i (.int .u8 c.toNat), fr, by simp [World.setCell, Array.getElem?_modify, h1], by simpa using h2, by simpa using h3, fun j hj => ?_⟩
  rw [List.length_set] at hj
  rw [Array.getElem?_setIfInBounds]
  by_cases hij : i = j
  · subst hij
    simp [List.getD, hj]; omega
  · simp [hij, List.getD]
    have := h4 j hj
    simp [List.getD] at this
    exact this
theorem BRow.drew {w : World} {g : Nat} {l : List UInt8} (h : BRow w g l) : BRow w.drew g l := h
theorem BRow.below {w w' : World} {g : Nat} {l : List UInt8} (h : BRow w g l) {B : Nat} (hb : Below B w w') (hg : g < B) : BRow w' g l := by
  obtain ⟨cs, fr, h1, r⟩ := h
  exact ⟨cs, fr, (hb.block g hg).trans h1, r⟩
theorem BRow.lt {w : World} {g : Nat} {l : List UInt8} (h : BRow w g l) : g < w.heap.size := by
  obtain ⟨cs, fr, h1, r⟩ := h
  exact lt_of_block h1
theorem BRow.new (w : World) (s : ByteArray) : BRow (Lib.bytesWorld w 5 s) w.heap.size s.data.toList := by
  refine ⟨_, _, Lib.bytesWorld_at_new w _ s, Or.inr (by simp), ?_, fun i hi => ?_⟩
  · simp [Lib.bytesCells]
  · have := Lib.bytesWorld_cell w 5 s i (by simpa using hi)
    rw [cell_of_row _ _ _ _ _ _ (Lib.bytesWorld_at_new w _ s)] at this
    exact this
theorem below_bytesWorld (w : World) (s : ByteArray) : Below w.heap.size w (Lib.bytesWorld w 5 s) :=
  ⟨by simp [Lib.bytesWorld, World.freeze]; rfl, by simp [Lib.bytesWorld, World.freeze], by simp [Lib.bytesWorld, World.freeze]; rfl, by rw [Lib.bytesWorld_size]; omega, fun k hk => Lib.bytesWorld_at_old w _ s k hk⟩
theorem strOfNums_bytes (l : List UInt8) : strOfNums (l.map fun c => (c.toNat : Int)) = ⟨l.toArray⟩ := by
  unfold strOfNums
  rw [List.map_map]
  have : l.map ((fun n : Int => UInt8.ofNat n.toNat) ∘ fun c : UInt8 => (c.toNat : Int)) = l := by
    conv => rhs; rw [← List.map_id l]
    apply List.map_congr_left
    intro c _
    simp
  rw [this]

theorem BRow.str {P : Program} {w : World} {g cap : Nat} {l : List UInt8} (h : BRow w g l) (src dst e : TypeId) (hs : P.underlying src = some (.slice e)) (he : P.underlying e = some (.int .u8)) (hd : P.underlying dst = some .string) :
    (convert src dst (.slice (some ⟨g, 0, none⟩) l.length cap)).run P w = .ok (.string ⟨l.toArray⟩) w := by
  rw [← strOfNums_bytes]
  exact run_convert_bytes_arg w src e hs he g 0 l.length cap (l.map fun c => (c.toNat : Int)) (by simp) (fun i hi => by
    rw [Nat.zero_add, h.cell hi]
    simp [List.getD, List.getElem?_eq_getElem hi]) dst hd

theorem info_u8 : (Tryd.prog.info? 5).map (fun i => (i.zero, i.size, i.bytes)) = some (some (.int .u8 0), 1, 1) := by kernel_rfl

theorem run_make_bytes (n : Nat) (hn : n ≤ 281474976710656) (w : World) :
    (Instr.makeSlice 76 (.int .i64 (n : Int)) (.int .i64 (n : Int))).run Tryd.prog w = .ok (.slice (some ⟨w.heap.size, 0, none⟩) n n) (w.alloc (.cells (madeCells #[.int .u8 0] n) 5)) :=
  run_make_row' (P := Tryd.prog) 76 5 (.int .u8 0) 1 Tryd.underlying76 info_u8 rfl .i64 .i64 n (by omega) (by omega) w

theorem BRow.zeros (w : World) (n : Nat) : BRow (w.alloc (.cells (madeCells #[.int .u8 0] n) 5)) w.heap.size (List.replicate n 0) := by
  refine ⟨_, _, heap_alloc_new w _, Or.inl (Nat.le_refl _), by simp [size_madeCells], fun i hi => ?_⟩
  rw [List.length_replicate] at hi
  simp [madeCells, hi, List.getD, Nat.mod_one]

end Go.Proofs.YtfhggnbnbopkkaaDoor
