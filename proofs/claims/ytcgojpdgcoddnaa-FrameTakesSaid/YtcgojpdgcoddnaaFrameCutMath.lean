/- Frames cut anywhere, in plain words. -/
import Derived.Test.YtcgojpdgcoddnaaFrameScan
namespace Go.Proofs.Ytcgojpdgcoddnaa.FM
open WM CrcMath

/-- frames, one behind the other -/
def frames (ps : List (List UInt8)) : List UInt8 := (ps.map frame).flatten
theorem frames_nil : frames [] = [] := rfl
theorem frames_cons (p : List UInt8) (ps : List (List UInt8)) : frames (p :: ps) = frame p ++ frames ps := by simp [frames]
theorem frames_append (ps qs : List (List UInt8)) : frames (ps ++ qs) = frames ps ++ frames qs := by simp [frames]

/-- each payload with its frame's place -/
def places : List (List UInt8) → Nat → List (Nat × List UInt8)
  | [], _ => []
  | p :: ps, a => (a, p) :: places ps (a + (p.length + 12))

theorem places_pays (ps : List (List UInt8)) : ∀ a, pays (places ps a) = ps.map bs := by
  induction ps with
  | nil => intro a; rfl
  | cons p ps ih =>
    intro a
    have := ih (a + (p.length + 12))
    simp only [pays, places, List.map_cons] at this ⊢
    rw [this]

theorem places_append (ps : List (List UInt8)) (q : List UInt8) : ∀ a, places (ps ++ [q]) a = places ps a ++ [(a + (frames ps).length, q)] := by
  induction ps with
  | nil => intro a; simp [places, frames]
  | cons p ps ih =>
    intro a
    simp only [places, List.cons_append, ih, frames_cons, List.length_append, frame_len]
    rw [Nat.add_assoc]

theorem places_good (ps : List (List UInt8)) : good (places ps 0) = (frames ps).length := by
  rcases List.eq_nil_or_concat ps with rfl | ⟨qs, q, rfl⟩
  · rfl
  · rw [List.concat_eq_append, places_append, good_snoc, frames_append, frames_cons]
    simp only [List.length_append, frame_len, frames_nil, List.length_nil]
    omega

theorem chunks_frames (ps : List (List UInt8)) : ∀ (pre rest : List UInt8) (k : Nat), (∀ p ∈ ps, p.length ≤ 4096) → (take rest).2.2 ≠ 0 → ps.length ≤ k →
    chunks k (pre ++ frames ps ++ rest) pre.length = places ps pre.length := by
  induction ps with
  | nil =>
    intro pre rest k _ hr _
    cases k with
    | zero => rfl
    | succ k =>
      simp only [chunks, frames_nil, List.append_nil, List.drop_left, places]
      rw [if_neg hr]
  | cons p ps ih =>
    intro pre rest k hall hr hk
    cases k with
    | zero => simp at hk
    | succ k =>
      have hp := hall p (by simp)
      have ht : take ((pre ++ frames (p :: ps) ++ rest).drop pre.length) = (p, p.length + 12, 0) := by
        rw [List.append_assoc, List.drop_left, frames_cons, List.append_assoc]
        exact take_frame p _ hp
      have ihh := ih (pre ++ frame p) rest k (fun q hq => hall q (by simp [hq])) hr (by simp at hk; omega)
      simp only [chunks, ht, places]
      rw [if_pos trivial]
      congr 1
      rw [List.length_append, frame_len] at ihh
      rw [← ihh, frames_cons]
      simp only [List.append_assoc]

theorem take_nil : take [] = ([], 0, 30) := rfl

/-- a proper beginning of a frame is too short -/
theorem take_short (p : List UInt8) (m : Nat) (hp : p.length ≤ 4096) (hm : m < p.length + 12) : take ((frame p).take m) = ([], 0, 30) := by
  have hl := frame_len p
  have hlen : ((frame p).take m).length = m := by rw [List.length_take]; omega
  by_cases h8 : m < 8
  · unfold take; rw [if_pos (by omega)]
  have h4 : (frame p).take 4 = be 4 p.length := by
    have := List.take_left (l₁ := be 4 p.length) (l₂ := be 4 (crc (be 4 p.length)) ++ p ++ be 4 (crc p))
    rw [be_len] at this
    rw [← this]; simp [frame, head]
  have h8' : ((frame p).drop 4).take 4 = be 4 (crc (be 4 p.length)) :=
    seg _ (be 4 p.length) _ (p ++ be 4 (crc p)) (by simp [frame, head]) _ _ (be_len _ _) (be_len _ _)
  have hv : val (be 4 p.length) = p.length := val_be 4 _ (by omega)
  have t4 : ((frame p).take m).take 4 = be 4 p.length := by rw [List.take_take, Nat.min_eq_left (by omega), h4]
  have t8 : (((frame p).take m).drop 4).take 4 = be 4 (crc (be 4 p.length)) := by
    rw [List.drop_take, List.take_take, Nat.min_eq_left (by omega), h8']
  unfold take
  rw [t4, t8, hv, val_be 4 _ (crc_lt' _), hlen]
  rw [if_neg (by omega), if_neg (by rintro (h | h) <;> first | omega | exact h rfl), if_pos (by omega)]

/-- where the first k frames end -/
def upto (ps : List (List UInt8)) (k : Nat) : Nat := (frames (ps.take k)).length
theorem upto_zero (ps : List (List UInt8)) : upto ps 0 = 0 := by simp [upto, frames]
theorem upto_succ (ps : List (List UInt8)) (k : Nat) (h : k < ps.length) : upto ps (k + 1) = upto ps k + (ps[k].length + 12) := by
  unfold upto
  rw [List.take_succ_eq_append_getElem h, frames_append, frames_cons, List.length_append, frames_nil, List.append_nil, frame_len]
theorem upto_all (ps : List (List UInt8)) : upto ps ps.length = (frames ps).length := by simp [upto]
theorem upto_le (ps : List (List UInt8)) : ∀ k, upto ps k ≤ upto ps (k + 1) := by
  intro k
  by_cases h : k < ps.length
  · rw [upto_succ _ _ h]; omega
  · unfold upto; rw [List.take_of_length_le (by omega), List.take_of_length_le (by omega)]; exact Nat.le_refl _
theorem upto_bound (ps : List (List UInt8)) (hall : ∀ p ∈ ps, p.length ≤ 4096) : ∀ k, upto ps k ≤ 4108 * k := by
  intro k
  induction k with
  | zero => rw [upto_zero]; omega
  | succ k ih =>
    by_cases h : k < ps.length
    · rw [upto_succ _ _ h]; have := hall ps[k] (List.getElem_mem h); omega
    · unfold upto at *; rw [List.take_of_length_le (by omega)] at *; omega

/-- what stands ahead of a cut -/
theorem cut_at (ps : List (List UInt8)) (hall : ∀ p ∈ ps, p.length ≤ 4096) (n at_ : Nat) (hn : n ≤ ps.length) (h1 : upto ps n ≤ at_) (h2 : n < ps.length → at_ < upto ps (n + 1)) (h3 : at_ ≤ (frames ps).length) :
    ∃ rest, (frames ps).take at_ = frames (ps.take n) ++ rest ∧ ((frames ps).drop (upto ps n)).take (at_ - upto ps n) = rest ∧ take rest = ([], 0, 30) := by
  have e : frames ps = frames (ps.take n) ++ frames (ps.drop n) := by rw [← frames_append, List.take_append_drop]
  have hd : (frames ps).drop (upto ps n) = frames (ps.drop n) := by
    rw [e]; unfold upto; exact List.drop_left
  refine ⟨(frames (ps.drop n)).take (at_ - upto ps n), ?_, by rw [hd], ?_⟩
  · rw [e, List.take_append, List.take_of_length_le (by exact h1)]
    rfl
  · by_cases hlt : n < ps.length
    · have h2' := h2 hlt
      rw [upto_succ _ _ hlt] at h2'
      rw [List.drop_eq_getElem_cons hlt, frames_cons, List.take_append_of_le_length (by rw [frame_len]; omega)]
      exact take_short _ _ (hall _ (List.getElem_mem hlt)) (by omega)
    · have : n = ps.length := by omega
      subst this
      rw [List.drop_length, frames_nil, List.take_nil]
      exact take_nil

end Go.Proofs.Ytcgojpdgcoddnaa.FM
