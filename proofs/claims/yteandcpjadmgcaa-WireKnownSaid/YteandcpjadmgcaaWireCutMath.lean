/- What ends too early is found out: in plain words. -/
import Derived.Test.YteandcpjadmgcaaWireMath
namespace Go.Proofs.Yteandcpjadmgcaa.WM

theorem num_cut (pre y : List UInt8) (k : Nat) (h : y.length < k) : num (pre ++ y) k (.ok pre.length) = (0, .bad 7 pre.length) := by
  simp only [num]; rw [if_pos (by simp; omega)]

theorem take_app {α : Type} (x y : List α) (m : Nat) (h : x.length ≤ m) : (x ++ y).take m = x ++ y.take (m - x.length) := by
  rw [List.take_append, List.take_of_length_le h]

theorem textR_cut (pre t : List UInt8) (m : Nat) (most : Int) (ht : t.length < 256 ^ 4) (hm : (t.length : Int) ≤ most) (h : m < (text t).length) :
    textR (pre ++ (text t).take m) most (.ok pre.length) = ([], .bad 7 pre.length) := by
  have hl : (text t).length = 4 + t.length := by simp [text, be_len]
  by_cases h4 : m < 4
  · simp only [textR]
    rw [num_cut _ _ _ (by simp; omega)]
  · have e : (text t).take m = be 4 t.length ++ t.take (m - 4) := by
      have := take_app (be 4 t.length) t m (by rw [be_len]; omega)
      rw [be_len] at this; exact this
    have hn := num_back pre (t.take (m - 4)) 4 t.length ht
    rw [e]
    simp only [textR]
    rw [← List.append_assoc, hn]
    simp only []
    rw [if_neg (by omega), if_pos (by simp [be_len]; omega)]

theorem loopR_cut (l : List (List UInt8)) : ∀ (pre : List UInt8) (acc : List (List UInt8)) (most : Int) (m : Nat), (∀ t ∈ l, t.length < 256 ^ 4 ∧ (t.length : Int) ≤ most) → m < (l.map text).flatten.length →
    ∃ p, loopR (pre ++ (l.map text).flatten.take m) most l.length (.ok pre.length) acc = ([], .bad 7 p) ∧ pre.length ≤ p ∧ p ≤ pre.length + m := by
  induction l with
  | nil => intro pre acc most m _ h; simp at h
  | cons t l ih =>
    intro pre acc most m h hm
    have ht := h t (by simp)
    simp only [List.map_cons, List.flatten_cons] at hm ⊢
    simp only [List.length_cons, loopR]
    by_cases hc : m < (text t).length
    · rw [List.take_append_of_le_length (by omega), textR_cut pre t m most ht.1 ht.2 hc]
      exact ⟨pre.length, rfl, by omega, by omega⟩
    · rw [take_app _ _ _ (by omega), ← List.append_assoc, textR_back pre _ t most ht.1 ht.2]
      simp only []
      obtain ⟨p, h1, h2, h3⟩ := ih (pre ++ text t) (acc ++ [t]) most (m - (text t).length) (fun u hu => h u (by simp [hu])) (by simp at hm ⊢; omega)
      refine ⟨p, h1, ?_, ?_⟩
      · simp at h2; omega
      · simp at h3; omega

theorem textsR_cut (pre : List UInt8) (l : List (List UInt8)) (count most : Int) (m : Nat) (hl : l.length < 256 ^ 4) (hc : (l.length : Int) ≤ count) (h : ∀ t ∈ l, t.length < 256 ^ 4 ∧ (t.length : Int) ≤ most) (hm : m < (texts l).length) :
    ∃ p, textsR (pre ++ (texts l).take m) count most (.ok pre.length) = ([], .bad 7 p) ∧ pre.length ≤ p ∧ p ≤ pre.length + m := by
  by_cases h4 : m < 4
  · refine ⟨pre.length, ?_, by omega, by omega⟩
    simp only [textsR]
    rw [num_cut _ _ _ (by simp; omega)]
  · have e : (texts l).take m = be 4 l.length ++ ((l.map text).flatten.take (m - 4)) := by
      have := take_app (be 4 l.length) (l.map text).flatten m (by rw [be_len]; omega)
      rw [be_len] at this; exact this
    have hn := num_back pre ((l.map text).flatten.take (m - 4)) 4 l.length hl
    rw [e]
    simp only [textsR]
    rw [← List.append_assoc, hn]
    simp only []
    rw [if_neg (by omega)]
    obtain ⟨p, h1, h2, h3⟩ := loopR_cut l (pre ++ be 4 l.length) [] most (m - 4) h (by simp only [texts, List.length_append, be_len] at hm; omega)
    refine ⟨p, h1, ?_, ?_⟩
    · simp at h2; omega
    · simp [be_len] at h3; omega

/-- the law: a text, then texts, cut at n -/
theorem cut_first (s u : List UInt8) (n : Nat) (hs : s.length < 256 ^ 4) (h : n < (text s).length) : textR ((text s ++ u).take n) s.length (.ok 0) = ([], .bad 7 0) := by
  rw [List.take_append_of_le_length (by omega)]
  exact textR_cut [] s n s.length hs (by omega) h

theorem cut_second (s : List UInt8) (l : List (List UInt8)) (n : Nat) (most : Int) (hs : s.length < 256 ^ 4) (hl : l.length < 256 ^ 4) (ht : ∀ t ∈ l, t.length < 256 ^ 4 ∧ (t.length : Int) ≤ most)
    (h : (text s).length ≤ n) (hn : n < (text s ++ texts l).length) :
    textR ((text s ++ texts l).take n) s.length (.ok 0) = (s, .ok (text s).length) ∧
    ∃ p, textsR ((text s ++ texts l).take n) l.length most (.ok (text s).length) = ([], .bad 7 p) ∧ (text s).length ≤ p ∧ p ≤ n := by
  rw [take_app _ _ _ h]
  refine ⟨textR_back [] _ s s.length hs (by omega), ?_⟩
  obtain ⟨p, h1, h2, h3⟩ := textsR_cut (text s) l l.length most (n - (text s).length) hl (by omega) ht (by simp at hn; omega)
  exact ⟨p, h1, h2, by omega⟩

/-- the law WireBack: all that was written, behind each other -/
theorem bool_back (pre post : List UInt8) (b : Bool) : bool (pre ++ be 1 (if b then 1 else 0) ++ post) (.ok pre.length) = (b, .ok (pre ++ be 1 (if b then 1 else 0)).length) := by
  simp only [bool]
  rw [num_back pre post 1 _ (by split <;> omega)]
  cases b <;> simp

theorem back_all (a b c : Nat) (odd : Bool) (s rest : List UInt8) (l : List (List UInt8)) (most : Int) (ha : a < 256 ^ 1) (hb : b < 256 ^ 4) (hc : c < 256 ^ 8) (hs : s.length < 256 ^ 4) (hl : l.length < 256 ^ 4) (ht : ∀ t ∈ l, t.length < 256 ^ 4 ∧ (t.length : Int) ≤ most)
    (X : List UInt8) (hX : X = be 1 a ++ texts l ++ be 1 (if odd then 1 else 0) ++ be 4 b ++ text s ++ be 8 c ++ rest) :
    ∃ p1 p2 p3 p4 p5 p6, num X 1 (.ok 0) = (a, .ok p1) ∧ textsR X l.length most (.ok p1) = (l, .ok p2) ∧ bool X (.ok p2) = (odd, .ok p3) ∧ num X 4 (.ok p3) = (b, .ok p4) ∧ textR X s.length (.ok p4) = (s, .ok p5) ∧ num X 8 (.ok p5) = (c, .ok p6) ∧
      p6 + rest.length = X.length ∧ X.drop p6 = rest := by
  have e1 : X = [] ++ be 1 a ++ (texts l ++ be 1 (if odd then 1 else 0) ++ be 4 b ++ text s ++ be 8 c ++ rest) := by rw [hX]; simp
  have e2 : X = be 1 a ++ texts l ++ (be 1 (if odd then 1 else 0) ++ be 4 b ++ text s ++ be 8 c ++ rest) := by rw [hX]; simp
  have e3 : X = be 1 a ++ texts l ++ be 1 (if odd then 1 else 0) ++ (be 4 b ++ text s ++ be 8 c ++ rest) := by rw [hX]; simp
  have e4 : X = be 1 a ++ texts l ++ be 1 (if odd then 1 else 0) ++ be 4 b ++ (text s ++ be 8 c ++ rest) := by rw [hX]; simp
  have e5 : X = be 1 a ++ texts l ++ be 1 (if odd then 1 else 0) ++ be 4 b ++ text s ++ (be 8 c ++ rest) := by rw [hX]; simp
  have e6 : X = be 1 a ++ texts l ++ be 1 (if odd then 1 else 0) ++ be 4 b ++ text s ++ be 8 c ++ rest := hX
  refine ⟨(be 1 a).length, (be 1 a ++ texts l).length, (be 1 a ++ texts l ++ be 1 (if odd then 1 else 0)).length, (be 1 a ++ texts l ++ be 1 (if odd then 1 else 0) ++ be 4 b).length,
    (be 1 a ++ texts l ++ be 1 (if odd then 1 else 0) ++ be 4 b ++ text s).length, (be 1 a ++ texts l ++ be 1 (if odd then 1 else 0) ++ be 4 b ++ text s ++ be 8 c).length, ?_, ?_, ?_, ?_, ?_, ?_, ?_, ?_⟩
  · rw [e1]; exact num_back [] _ 1 a ha
  · rw [e2]; exact textsR_back (be 1 a) _ l l.length most hl (by omega) ht
  · rw [e3]; exact bool_back _ _ odd
  · rw [e4]; exact num_back _ _ 4 b hb
  · rw [e5]; exact textR_back _ _ s s.length hs (by omega)
  · rw [e6]; exact num_back _ _ 8 c hc
  · rw [e6]; simp only [List.length_append]
  · rw [e6]; exact List.drop_left

end Go.Proofs.Yteandcpjadmgcaa.WM
