/- slices.Equal and slices.Clone of texts. -/
import Derived.Test.YtcgojpdgcoddnaaWireTexts
import Derived.Test.YtcgojpdgcoddnaaWireRd3
import Derived.Lib.SliceRun
namespace Go.Proofs.Ytcgojpdgcoddnaa
open Go.RowKit

set_option maxRecDepth 100000 in
set_option maxHeartbeats 2000000 in
/-- slices that hold alike texts are equal -/
theorem equal_true (A A' : Option Addr) (c c' : Nat) (ss : List ByteArray) (w : World) (ha : SArg w w.heap.size A ss) (ha' : SArg w w.heap.size A' ss) (hn : ss.length ≤ 4611686018427387904) :
    Calls Try.prog 13 #[.slice A ss.length c, .slice A' ss.length c'] w fun e w' => e = .returned (.bool true) ∧ Below w.heap.size w w' := by
  go_enter Try.func13, Try.ntmps13
  go_wp2
  go_loopw [5, 13] (fun _ i wr => ∃ k : Nat, k ≤ ss.length ∧ i = .int .i64 k ∧ Below w.heap.size w wr) (fun _ i _ => ss.length - (intOf i).toNat)
  case atStart => exact ⟨0, by omega, rfl, Below.refl _ _⟩
  case round =>
    obtain ⟨k, hk, rfl, hbr⟩ := hrel
    by_cases hlt : k < ss.length
    · obtain ⟨ad, rfl, hadb, hcell⟩ := (ha.below hbr (Nat.le_refl _)).at_ hlt
      obtain ⟨ad', rfl, hadb', hcell'⟩ := (ha'.below hbr (Nat.le_refl _)).at_ hlt
      have hlt2 : (k : Int) < ss.length := by omega
      have HB := Lib.hid hbr
      clear ha ha' hbr
      generalize ss[k] = s at *
      go_wp2
      go_quiet (fail)
      go_wp2
      exact ⟨⟨k + 1, by omega, by go_num, below_drawn HB.out _⟩, by simp [intOf]; omega⟩
    · go_wp2
      go_ret
      exact ⟨rfl, hbr⟩

theorem info_str : (Try.prog.info? 9).map (fun i => (i.zero, i.size, i.bytes)) = some (some (.string ByteArray.empty), 1, 16) := by kernel_rfl
theorem info_string : ∃ i, Try.prog.info? 9 = some i ∧ i.zero = some (.string ByteArray.empty) ∧ i.size = 1 ∧ i.bytes = 16 := info_parts info_str

/-- the texts' cells -/
def strs (ss : List ByteArray) : List Value := ss.map .string
theorem strs_one (ss : List ByteArray) : ∀ u ∈ strs ss, u.oneCell' = true := by
  intro u hu
  obtain ⟨c, _, rfl⟩ := List.mem_map.1 hu
  rfl
theorem strs_len (ss : List ByteArray) : (strs ss).length = ss.length := by simp [strs]

abbrev OwnS (w : World) (base : Nat) (v : Value) (ss : List ByteArray) : Prop := w.ownsRow base 9 1 v ss.length (strs ss)

/-- an own slice of texts, seen as an argument -/
theorem OwnS.arg {w : World} {base : Nat} {v : Value} {ss : List ByteArray} (h : OwnS w base v ss) : ∃ A c, v = .slice A ss.length c ∧ SArg w w.heap.size A ss := by
  have hlt := h.lt
  have hc := fun g (hg : v.ownBlock = some g) => h.cells hg
  rcases h.2 with ⟨rfl, h0⟩ | ⟨g, cap, cur, rfl, hb, hg, _⟩
  · refine ⟨none, 0, by rw [h0], fun hp => by omega⟩
  · refine ⟨_, _, rfl, fun _ => ⟨_, rfl, lt_of_block hg, fun j s hj => hc g rfl j (.string s) ?_⟩⟩
    simp only [strs, List.getElem?_map, hj, Option.map_some]

theorem SArg.news {w : World} {B : Nat} {A : Option Addr} {ss : List ByteArray} {ad : Addr} (h : SArg w B A ss) (e : A = some ad) : ∀ j u, (strs ss)[j]? = some u → w.cell? (ad.add j) = some u := by
  intro j u hu
  subst e
  simp only [strs, List.getElem?_map, Option.map_eq_some_iff] at hu
  obtain ⟨s, hs, rfl⟩ := hu
  obtain ⟨ad2, e, _, hc⟩ := h (by have := (List.getElem?_eq_some_iff.1 hs).1; omega)
  cases e
  exact hc j s hs

end Go.Proofs.Ytcgojpdgcoddnaa
