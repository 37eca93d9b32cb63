/- Texts, written by package wire and by the document (dragomanref01): every list of texts of at most 2^20 bytes together. -/
import Derived.Test.YtbapifbahhjfgaaWireEnc2
import Derived.Test.YtbapifbahhjfgaaBuf
namespace Go.Proofs.Ytbapifbahhjfgaa
open Go.RowKit

/-- the slice '.slice A n c' (n texts) reads as the texts ss, below block B -/
def SArg (w : World) (B : Nat) (A : Option Addr) (ss : List ByteArray) : Prop :=
  0 < ss.length → ∃ ad, A = some ad ∧ ad.block < B ∧ ∀ j s, ss[j]? = some s → w.cell? (ad.add j) = some (.string s)

theorem block_add (a : Addr) (n : Nat) : (a.add n).block = a.block := by unfold Addr.add; split <;> rfl

theorem SArg.below {w w' : World} {B B' : Nat} {A : Option Addr} {ss : List ByteArray} (h : SArg w B A ss) (hb : Below B' w w') (hB : B ≤ B') : SArg w' B A ss := fun hn => by
  obtain ⟨ad, e, hlt, hc⟩ := h hn
  exact ⟨ad, e, hlt, fun j s hj => (hb.cell (by rw [block_add]; omega)).trans (hc j s hj)⟩
theorem SArg.at_ {w : World} {B : Nat} {A : Option Addr} {ss : List ByteArray} (h : SArg w B A ss) {k : Nat} (hk : k < ss.length) : ∃ ad, A = some ad ∧ ad.block < B ∧ w.cell? (ad.add k) = some (.string ss[k]) := by
  obtain ⟨ad, e, hlt, hc⟩ := h (by omega)
  exact ⟨ad, e, hlt, hc k _ (List.getElem?_eq_getElem hk)⟩

/-- how many bytes texts have together -/
def total (ss : List ByteArray) : Nat := (ss.map ByteArray.size).sum
theorem total_snoc (ss : List ByteArray) (k : Nat) (h : k < ss.length) : total (ss.take (k + 1)) = total (ss.take k) + ss[k].size := by
  simp only [total]
  rw [List.take_succ_eq_append_getElem h, List.map_append, List.sum_append]; simp
theorem total_take_le (ss : List ByteArray) (k : Nat) : total (ss.take k) ≤ total ss := by
  have h : total ss = total (ss.take k) + total (ss.drop k) := by
    conv => lhs; rw [← List.take_append_drop k ss]
    simp only [total]
    rw [List.map_append, List.sum_append]
  omega
theorem total_at_le (ss : List ByteArray) (k : Nat) (h : k < ss.length) : total (ss.take k) + ss[k].size ≤ total ss := by
  rw [← total_snoc ss k h]; exact total_take_le ss _

def lists (ss : List ByteArray) : List (List UInt8) := ss.map fun s => s.data.toList
theorem lists_len (ss : List ByteArray) : (lists ss).length = ss.length := by simp [lists]

/-- the bytes behind k texts -/
def sofar (ss : List ByteArray) (k : Nat) : List UInt8 := WM.be 4 ss.length ++ ((lists (ss.take k)).map WM.text).flatten
theorem sofar_zero (ss : List ByteArray) : sofar ss 0 = WM.be 4 ss.length := by simp [sofar, lists]
theorem sofar_all (ss : List ByteArray) : sofar ss ss.length = WM.texts (lists ss) := by simp [sofar, WM.texts, lists]
theorem sofar_succ (ss : List ByteArray) (k : Nat) (h : k < ss.length) : sofar ss (k + 1) = sofar ss k ++ WM.text ss[k].data.toList := by
  simp only [sofar, lists]
  rw [List.take_succ_eq_append_getElem h, List.map_append, List.map_append, List.flatten_append, List.append_assoc]
  simp
theorem sofar_len (ss : List ByteArray) (k : Nat) (h : k ≤ ss.length) : (sofar ss k).length = 4 + 4 * k + total (ss.take k) := by
  induction k with
  | zero => rw [sofar_zero, WM.be_len]; rfl
  | succ k ih =>
    have hk : k < ss.length := by omega
    rw [sofar_succ ss k hk, List.length_append, ih (by omega), total_snoc ss k hk]
    simp only [WM.text, List.length_append, WM.be_len]
    have : ss[k].data.toList.length = ss[k].size := rfl
    omega

theorem info_u8' : ∃ i, Try.prog.info? 5 = some i ∧ i.zero = some (.int .u8 0) ∧ i.size = 1 ∧ i.bytes = 1 := info_parts info_u8

theorem total_take_last (ss : List ByteArray) (k : Nat) (h : ss.length ≤ k) : total (ss.take k) = total ss := by rw [List.take_of_length_le h]

end Go.Proofs.Ytbapifbahhjfgaa
