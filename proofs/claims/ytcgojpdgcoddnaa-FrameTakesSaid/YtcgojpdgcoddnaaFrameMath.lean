/- Frames in plain words: what is put, what is taken. -/
import Derived.Test.YtcgojpdgcoddnaaWireMath
import Derived.Test.YtcgojpdgcoddnaaSumMath
namespace Go.Proofs.Ytcgojpdgcoddnaa.FM
open WM CrcMath

def head (n : Nat) : List UInt8 := be 4 n ++ be 4 (crc (be 4 n))
def frame (p : List UInt8) : List UInt8 := head p.length ++ p ++ be 4 (crc p)

theorem head_len (n : Nat) : (head n).length = 8 := by simp [head, be_len]
theorem frame_len (p : List UInt8) : (frame p).length = p.length + 12 := by simp [frame, head, be_len]; omega

/-- what s begins with: the payload, how many bytes, what is wrong -/
def take (s : List UInt8) : List UInt8 × Nat × Nat :=
  if s.length < 8 then ([], 0, 30)
  else if 4096 < val (s.take 4) ∨ val ((s.drop 4).take 4) ≠ crc (s.take 4) then ([], 0, 7)
  else if s.length < 12 + val (s.take 4) then ([], 0, 30)
  else if val ((s.drop (8 + val (s.take 4))).take 4) ≠ crc ((s.drop 8).take (val (s.take 4))) then ([], 0, 7)
  else ((s.drop 8).take (val (s.take 4)), 12 + val (s.take 4), 0)

theorem seg (L pre x post : List UInt8) (hL : L = pre ++ x ++ post) (a k : Nat) (ha : pre.length = a) (hk : x.length = k) : (L.drop a).take k = x := by
  subst hL ha hk
  exact take_at pre x post

theorem crc_lt' (l : List UInt8) : crc l < 256 ^ 4 := crc_lt l

theorem take_frame (p rest : List UInt8) (hp : p.length ≤ 4096) : take (frame p ++ rest) = (p, p.length + 12, 0) := by
  have hl := frame_len p
  have h4 : (frame p ++ rest).take 4 = be 4 p.length := by
    have := List.take_left (l₁ := be 4 p.length) (l₂ := be 4 (crc (be 4 p.length)) ++ p ++ be 4 (crc p) ++ rest)
    rw [be_len] at this
    rw [← this]; simp [frame, head]
  have h8 : ((frame p ++ rest).drop 4).take 4 = be 4 (crc (be 4 p.length)) := by
    exact seg _ (be 4 p.length) _ (p ++ be 4 (crc p) ++ rest) (by simp [frame, head]) _ _ (be_len _ _) (be_len _ _)
  have hv : val (be 4 p.length) = p.length := val_be 4 _ (by omega)
  have hpd : ((frame p ++ rest).drop 8).take p.length = p := by
    exact seg _ (head p.length) _ (be 4 (crc p) ++ rest) (by simp [frame]) _ _ (head_len _) rfl
  have htl : ((frame p ++ rest).drop (8 + p.length)).take 4 = be 4 (crc p) := by
    exact seg _ (head p.length ++ p) _ rest (by simp [frame]) _ _ (by simp [head_len]) (be_len _ _)
  unfold take
  rw [h4, h8, hv, hpd, htl, val_be 4 _ (crc_lt' _), val_be 4 _ (crc_lt' _)]
  rw [if_neg (by simp [hl]; omega), if_neg (by rintro (h | h) <;> first | omega | exact h rfl), if_neg (by simp [hl]; omega), if_neg (by simp)]
  rw [Nat.add_comm]

/-- one byte that is another one changes the sum -/
theorem crc_set (l : List UInt8) (j : Nat) (c : UInt8) (hj : j < l.length) (hc : c ≠ l[j]) : crc (l.set j c) ≠ crc l := by
  intro h
  have hd : l.getD j 0 = l[j] := by simp [List.getD, hj]
  have hn := num_set l j c hj
  have he : (l.getD j 0).toNat ^^^ c.toNat < 2 ^ 32 := Nat.xor_lt_two_pow (n := 32) (byte_lt _) (byte_lt _)
  have := (crc_window (l := l.set j c) (m := l) (by simp) hn (by omega) he).1 h
  have heq : (l.getD j 0).toNat = c.toNat := by
    have h1 := congrArg (fun x => (l.getD j 0).toNat ^^^ x) this
    simp only [← Nat.xor_assoc, Nat.xor_self, Nat.zero_xor, Nat.xor_zero] at h1
    exact h1.symm
  exact hc (UInt8.toNat_inj.1 (by rw [← heq, hd]))

theorem val_set (l : List UInt8) (j : Nat) (c : UInt8) (hj : j < l.length) (hc : c ≠ l[j]) : val (l.set j c) ≠ val l := by
  intro h
  have h1 : be (l.set j c).length (val (l.set j c)) = l.set j c := be_val _
  rw [h, List.length_set, be_val] at h1
  have h2 : (l.set j c)[j]? = l[j]? := by rw [← h1]
  rw [List.getElem?_set_self hj, List.getElem?_eq_getElem hj] at h2
  exact hc (Option.some.inj h2)

/-- the law FrameSpoilt -/
theorem take_spoilt (p : List UInt8) (hp : p.length ≤ 4096) (at_ : Nat) (c : UInt8) (ha : at_ < (frame p).length) (hc : c ≠ (frame p)[at_]) :
    (take ((frame p).set at_ c)).2.1 = 0 ∧ (take ((frame p).set at_ c)).2.2 ≠ 0 := by
  have hl := frame_len p
  have hbad : ∀ e, e ≠ 0 → ((([] : List UInt8), 0, e) : List UInt8 × Nat × Nat).2.1 = 0 ∧ ((([] : List UInt8), 0, e) : List UInt8 × Nat × Nat).2.2 ≠ 0 := fun e h => ⟨rfl, h⟩
  have hN : val (be 4 p.length) = p.length := val_be 4 _ (by omega)
  have hC1 : val (be 4 (crc (be 4 p.length))) = crc (be 4 p.length) := val_be 4 _ (crc_lt' _)
  have hC2 : val (be 4 (crc p)) = crc p := val_be 4 _ (crc_lt' _)
  have hlen : ((frame p).set at_ c).length = p.length + 12 := by rw [List.length_set, hl]
  have e0 : frame p = be 4 p.length ++ (be 4 (crc (be 4 p.length)) ++ (p ++ be 4 (crc p))) := by simp [frame, head]
  have hb4 : ∀ n, (be 4 n).length = 4 := be_len 4
  by_cases h4 : at_ < 4
  · have hs : (frame p).set at_ c = (be 4 p.length).set at_ c ++ (be 4 (crc (be 4 p.length)) ++ (p ++ be 4 (crc p))) := by
      rw [e0, List.set_append_left _ _ (by rw [hb4]; omega)]
    have hc' : c ≠ (be 4 p.length)[at_]'(by rw [hb4]; omega) := by
      intro h; apply hc; rw [h]
      simp only [e0]
      rw [List.getElem_append_left]
    have t4 : ((frame p).set at_ c).take 4 = (be 4 p.length).set at_ c := by
      rw [hs]
      have := List.take_left (l₁ := (be 4 p.length).set at_ c) (l₂ := be 4 (crc (be 4 p.length)) ++ (p ++ be 4 (crc p)))
      rwa [List.length_set, hb4] at this
    have t8 : (((frame p).set at_ c).drop 4).take 4 = be 4 (crc (be 4 p.length)) := by
      exact seg _ ((be 4 p.length).set at_ c) _ (p ++ be 4 (crc p)) (by rw [hs]; simp) _ _ (by rw [List.length_set, hb4]) (hb4 _)
    unfold take
    rw [if_neg (by omega), if_pos (Or.inr (by rw [t4, t8, hC1]; exact (crc_set _ _ _ (by rw [hb4]; omega) hc').symm))]
    exact hbad 7 (by omega)
  by_cases h8 : at_ < 8
  · have hs : (frame p).set at_ c = be 4 p.length ++ ((be 4 (crc (be 4 p.length))).set (at_ - 4) c ++ (p ++ be 4 (crc p))) := by
      rw [e0, List.set_append_right _ _ (by rw [hb4]; omega), hb4, List.set_append_left _ _ (by rw [hb4]; omega)]
    have hc' : c ≠ (be 4 (crc (be 4 p.length)))[at_ - 4]'(by rw [hb4]; omega) := by
      intro h; apply hc; rw [h]
      simp only [e0]
      rw [List.getElem_append_right (by rw [hb4]; omega), List.getElem_append_left (by rw [hb4, hb4]; omega)]
      simp [hb4]
    have t4 : ((frame p).set at_ c).take 4 = be 4 p.length := by
      rw [hs]
      have := List.take_left (l₁ := be 4 p.length) (l₂ := (be 4 (crc (be 4 p.length))).set (at_ - 4) c ++ (p ++ be 4 (crc p)))
      rwa [hb4] at this
    have t8 : (((frame p).set at_ c).drop 4).take 4 = (be 4 (crc (be 4 p.length))).set (at_ - 4) c := by
      exact seg _ (be 4 p.length) _ (p ++ be 4 (crc p)) (by rw [hs]; simp) _ _ (hb4 _) (by rw [List.length_set, hb4])
    unfold take
    rw [if_neg (by omega), if_pos (Or.inr (by rw [t4, t8]; exact fun h => val_set _ _ _ (by rw [hb4]; omega) hc' (by rw [h, hC1])))]
    exact hbad 7 (by omega)
  have t4 : ((frame p).set at_ c).take 4 = be 4 p.length := by
    rw [e0, List.set_append_right _ _ (by rw [hb4]; omega), hb4]
    have := List.take_left (l₁ := be 4 p.length) (l₂ := (be 4 (crc (be 4 p.length)) ++ (p ++ be 4 (crc p))).set (at_ - 4) c)
    rwa [hb4] at this
  have t8 : (((frame p).set at_ c).drop 4).take 4 = be 4 (crc (be 4 p.length)) := by
    rw [e0, List.set_append_right _ _ (by rw [hb4]; omega), hb4, List.set_append_right _ _ (by rw [hb4]; omega), hb4]
    exact seg _ (be 4 p.length) _ ((p ++ be 4 (crc p)).set (at_ - 4 - 4) c) (by simp) _ _ (hb4 _) (hb4 _)
  by_cases hpl : at_ < 8 + p.length
  · have hs : (frame p).set at_ c = head p.length ++ p.set (at_ - 8) c ++ be 4 (crc p) := by
      rw [show frame p = head p.length ++ (p ++ be 4 (crc p)) from by simp [frame], List.set_append_right _ _ (by rw [head_len]; omega), head_len, List.set_append_left _ _ (by omega)]
      simp
    have hc' : c ≠ p[at_ - 8]'(by omega) := by
      intro h; apply hc; rw [h]
      simp only [show frame p = head p.length ++ (p ++ be 4 (crc p)) from by simp [frame]]
      rw [List.getElem_append_right (by rw [head_len]; omega), List.getElem_append_left (by rw [head_len]; omega)]
      simp [head_len]
    have tp : (((frame p).set at_ c).drop 8).take p.length = p.set (at_ - 8) c := by
      exact seg _ (head p.length) _ (be 4 (crc p)) hs _ _ (head_len _) (by rw [List.length_set])
    have tt : (((frame p).set at_ c).drop (8 + p.length)).take 4 = be 4 (crc p) := by
      exact seg _ (head p.length ++ p.set (at_ - 8) c) _ [] (by rw [hs]; simp) _ _ (by rw [List.length_append, List.length_set, head_len]) (hb4 _)
    unfold take
    rw [t4, t8, hN, hC1, tp, tt, hC2]
    rw [if_neg (by omega), if_neg (by rintro (h | h) <;> first | omega | exact h rfl), if_neg (by omega), if_pos (crc_set p (at_ - 8) c (by omega) hc').symm]
    exact hbad 7 (by omega)
  · have hs : (frame p).set at_ c = head p.length ++ p ++ (be 4 (crc p)).set (at_ - 8 - p.length) c := by
      rw [show frame p = head p.length ++ (p ++ be 4 (crc p)) from by simp [frame], List.set_append_right _ _ (by rw [head_len]; omega), head_len, List.set_append_right _ _ (by omega)]
      simp
    have hc' : c ≠ (be 4 (crc p))[at_ - 8 - p.length]'(by rw [hb4]; omega) := by
      intro h; apply hc; rw [h]
      simp only [show frame p = head p.length ++ (p ++ be 4 (crc p)) from by simp [frame]]
      rw [List.getElem_append_right (by rw [head_len]; omega), List.getElem_append_right (by rw [head_len]; omega)]
      simp [head_len]
    have tp : (((frame p).set at_ c).drop 8).take p.length = p := by
      exact seg _ (head p.length) _ ((be 4 (crc p)).set (at_ - 8 - p.length) c) hs _ _ (head_len _) rfl
    have tt : (((frame p).set at_ c).drop (8 + p.length)).take 4 = (be 4 (crc p)).set (at_ - 8 - p.length) c := by
      exact seg _ (head p.length ++ p) _ [] (by rw [hs]; simp) _ _ (by rw [List.length_append, head_len]) (by rw [List.length_set, hb4])
    unfold take
    rw [t4, t8, hN, hC1, tp, tt]
    rw [if_neg (by omega), if_neg (by rintro (h | h) <;> first | omega | exact h rfl), if_neg (by omega), if_pos (fun h => val_set _ _ _ (by rw [hb4]; omega) hc' (by rw [h, hC2]))]
    exact hbad 7 (by omega)

end Go.Proofs.Ytcgojpdgcoddnaa.FM
