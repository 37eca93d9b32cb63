/- Messages' bytes, in plain words. -/
import Derived.Test.YtbapifbahhjfgaaMsgCheck
namespace Go.Proofs.Ytbapifbahhjfgaa
open Go.RowKit

def nsForm (m : Msg) (k : Nat) : List UInt8 := (List.range k).flatMap fun j => WM.be 8 (m.n j).toNat
def esForm (l : List (Int × ByteArray)) : List UInt8 := l.flatMap fun x => WM.be 8 x.1.toNat ++ WM.text x.2.data.toList
def midForm (m : Msg) : List UInt8 := WM.be 1 (if m.good then 1 else 0) ++ WM.be 1 m.op ++ WM.be 4 m.err.toNat ++ WM.be 1 m.leader.toNat
def Msg.form (m : Msg) : List UInt8 := WM.be 1 m.kind ++ nsForm m 15 ++ midForm m ++ (WM.text m.data.data.toList ++ WM.be 1 m.ents.length) ++ esForm m.ents

theorem nsForm_succ (m : Msg) (k : Nat) : nsForm m (k + 1) = nsForm m k ++ WM.be 8 (m.n k).toNat := by
  simp [nsForm, List.range_succ]
theorem nsForm_len (m : Msg) (k : Nat) : (nsForm m k).length = 8 * k := by
  induction k with
  | zero => rfl
  | succ k ih => rw [nsForm_succ, List.length_append, ih, WM.be_len]; omega
theorem text_len (s : ByteArray) : (WM.text s.data.toList).length = s.size + 4 := by
  simp only [WM.text, List.length_append, WM.be_len]
  show 4 + s.size = s.size + 4
  omega
theorem esForm_snoc (l : List (Int × ByteArray)) (k : Nat) (h : k < l.length) : esForm (l.take (k + 1)) = esForm (l.take k) ++ (WM.be 8 l[k].1.toNat ++ WM.text l[k].2.data.toList) := by
  rw [List.take_succ_eq_append_getElem h]
  simp only [esForm, List.flatMap_append, List.flatMap_cons, List.flatMap_nil, List.append_nil]
theorem midForm_len (m : Msg) : (midForm m).length = 7 := by simp [midForm, WM.be_len]

theorem entsCheck_ok : ∀ (l : List (Int × ByteArray)) (a : Nat), a ≤ 3500 → entsCheck l a = 0 → ∀ x ∈ l, 0 ≤ x.1 ∧ x.1 ≤ 1125899906842624 ∧ x.2.size ≤ 3500
  | [], _, _, _, x, hx => by simp at hx
  | y :: l, a, ha, h, x, hx => by
    simp only [entsCheck] at h
    split at h
    · cases h
    · rename_i h1
      split at h
      · cases h
      · rename_i h2
        simp at h1
        rcases List.mem_cons.1 hx with rfl | hx
        · exact ⟨h1.1, h1.2, by omega⟩
        · exact entsCheck_ok l _ (by omega) h x hx

structure Msg.Ok (m : Msg) : Prop where
  kind : 1 ≤ m.kind ∧ m.kind ≤ 14
  err : 0 ≤ m.err ∧ m.err ≤ 999
  leader : 0 ≤ m.leader ∧ m.leader ≤ 3
  n : ∀ k, k < 15 → 0 ≤ m.n k ∧ m.n k ≤ 1125899906842624
  ents : m.ents.length ≤ 4
  data : m.data.size ≤ 3500
  each : ∀ x ∈ m.ents, 0 ≤ x.1 ∧ x.1 ≤ 1125899906842624 ∧ x.2.size ≤ 3500

theorem check_ok (m : Msg) (h : m.check = 0) : m.Ok := by
  unfold Msg.check at h
  split at h
  · cases h
  rename_i h1
  split at h
  · cases h
  rename_i h2
  split at h
  · cases h
  rename_i h3
  simp [Msg.headBad] at h1
  simp [Msg.numsBad, numBad] at h2
  simp at h3
  exact ⟨by omega, by omega, by omega, fun k hk => by have := h2 k hk; omega, by omega, by omega, entsCheck_ok _ _ (by omega) h⟩

theorem esForm_len : ∀ (l : List (Int × ByteArray)), (∀ x ∈ l, x.2.size ≤ 3500) → (esForm l).length ≤ 3512 * l.length
  | [], _ => by simp [esForm]
  | x :: l, h => by
    have := esForm_len l (fun y hy => h y (by simp [hy]))
    have hx := h x (by simp)
    have ht := text_len x.2
    simp only [esForm, List.flatMap_cons, List.length_append, WM.be_len, List.length_cons] at this ⊢
    omega

theorem form_len (m : Msg) (h : m.Ok) : m.form.length ≤ 20000 := by
  have h1 := nsForm_len m 15
  have h2 := midForm_len m
  have h3 := text_len m.data
  have h4 := esForm_len m.ents (fun x hx => (h.each x hx).2.2)
  have h5 := h.ents
  have h6 := h.data
  simp only [Msg.form, List.length_append, WM.be_len]
  omega

end Go.Proofs.Ytbapifbahhjfgaa
