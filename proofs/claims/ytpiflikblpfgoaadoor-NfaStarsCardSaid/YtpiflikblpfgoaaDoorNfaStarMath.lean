/- Again and again: plain. -/
import Derived.Test.YtpiflikblpfgoaaDoorNfaJoinMath
namespace Go.Proofs.YtpiflikblpfgoaaDoor.PM

/-- does the i-th beginning fall into texts that x fits? (from the shorter beginnings) -/
def toL (x : T) (l : List UInt8) : Nat → List Bool
  | 0 => [true]
  | i + 1 => toL x l i ++ [(List.range (i + 1)).any fun k => (toL x l i).getD k false && fitsB x ((l.drop k).take (i + 1 - k))]
theorem toL_len (x : T) (l : List UInt8) (i : Nat) : (toL x l i).length = i + 1 := by induction i with | zero => rfl | succ i ih => simp [toL, ih]
/-- the same, place by place -/
def toB (x : T) (l : List UInt8) (i : Nat) : Bool := (toL x l i).getD i false
theorem toL_get (x : T) (l : List UInt8) {k i : Nat} (h : k ≤ i) : (toL x l i).getD k false = toB x l k := by
  induction i with
  | zero => obtain rfl : k = 0 := (by omega)
            rfl
  | succ i ih =>
    rcases Nat.lt_or_ge k (i + 1) with h2 | h2
    · rw [← ih (by omega), toL, List.getD_eq_getElem?_getD, List.getElem?_append_left (by rw [toL_len]; omega), ← List.getD_eq_getElem?_getD]
    · obtain rfl : k = i + 1 := (by omega)
      rfl
/-- the places from which the i-th one is reached -/
def reach (x : T) (l : List UInt8) (i k : Nat) : Bool := (List.range k).any fun j => toB x l j && fitsB x ((l.drop j).take (i - j))
theorem reach_succ (x : T) (l : List UInt8) (i k : Nat) : reach x l i (k + 1) = (reach x l i k || (toB x l k && fitsB x ((l.drop k).take (i - k)))) := by simp [reach, List.range_succ]
theorem any_congr' {n : Nat} {f g : Nat → Bool} (h : ∀ k, k < n → f k = g k) : (List.range n).any f = (List.range n).any g := by
  rw [Bool.eq_iff_iff]
  simp only [List.any_eq_true, List.mem_range]
  exact ⟨fun ⟨k, h1, h2⟩ => ⟨k, h1, by rw [← h k h1]; exact h2⟩, fun ⟨k, h1, h2⟩ => ⟨k, h1, by rw [h k h1]; exact h2⟩⟩
theorem toB_zero (x : T) (l : List UInt8) : toB x l 0 = true := rfl
theorem toB_succ (x : T) (l : List UInt8) (i : Nat) : toB x l (i + 1) = reach x l (i + 1) (i + 1) := by
  have h : toB x l (i + 1) = (List.range (i + 1)).any fun k => (toL x l i).getD k false && fitsB x ((l.drop k).take (i + 1 - k)) := by
    show (toL x l (i + 1)).getD (i + 1) false = _
    rw [toL, List.getD_eq_getElem?_getD, List.getElem?_append_right (by rw [toL_len]; omega), toL_len]
    simp
  rw [h]
  exact any_congr' fun k hk => by rw [toL_get x l (by omega)]

theorem toB_star {x : T} {l : List UInt8} (hx : ∀ w, fitsB x w = true ↔ L x w) : ∀ n i, i < n → i ≤ l.length → (toB x l i = true ↔ Star (L x) (l.take i)) := by
  intro n
  induction n with
  | zero => intro i h; omega
  | succ n ih =>
    intro i hi hl
    cases i with
    | zero => exact ⟨fun _ => by rw [List.take_zero]; exact .nil, fun _ => rfl⟩
    | succ i =>
      rw [toB_succ]
      simp only [reach, List.any_eq_true, List.mem_range, Bool.and_eq_true]
      constructor
      · rintro ⟨k, hk, h1, h2⟩
        have h3 := (ih k (by omega) (by omega)).1 h1
        have h4 := (hx _).1 h2
        have h5 : l.take (i + 1) = l.take k ++ (l.drop k).take (i + 1 - k) := by
          have h6 : (l.take (i + 1)).take k = l.take k := by rw [List.take_take, Nat.min_eq_left (by omega)]
          have h7 := List.take_append_drop k (l.take (i + 1))
          rw [h6, List.drop_take] at h7
          exact h7.symm
        rw [h5]
        exact star_snoc h3 h4
      · intro h
        obtain ⟨u, v, e, hu, hv, hne⟩ := star_last h (by
          intro e
          have := congrArg List.length e
          rw [List.length_take, List.length_nil] at this
          omega)
        have hlen := congrArg List.length e
        rw [List.length_take, List.length_append] at hlen
        have hvl : 0 < v.length := List.length_pos_iff.2 hne
        have e1 : u = l.take u.length := by
          have := congrArg (List.take u.length) e
          rw [List.take_left, List.take_take, Nat.min_eq_left (by omega)] at this
          exact this.symm
        have e2 : v = (l.drop u.length).take (i + 1 - u.length) := by
          have := congrArg (List.drop u.length) e
          rw [List.drop_left, List.drop_take] at this
          exact this.symm
        refine ⟨u.length, by omega, (ih _ (by omega) (by omega)).2 (by rw [← e1]; exact hu), (hx _).2 (by rw [← e2]; exact hv)⟩
where
  star_snoc {A : List UInt8 → Prop} {u v : List UInt8} (h : Star A u) (hv : A v) : Star A (u ++ v) := by
    induction h with
    | nil => have := Star.cons hv (Star.nil (A := A)); rwa [List.append_nil] at this
    | @cons a b ha _ ih => rw [List.append_assoc]; exact .cons ha ih
  star_last {A : List UInt8 → Prop} {w : List UInt8} (h : Star A w) (hw : w ≠ []) : ∃ u v, w = u ++ v ∧ Star A u ∧ A v ∧ v ≠ [] := by
    induction h with
    | nil => exact absurd rfl hw
    | @cons a b ha hb ih =>
      by_cases hbn : b = []
      · subst hbn
        rw [List.append_nil] at hw ⊢
        exact ⟨[], a, rfl, .nil, ha, hw⟩
      · obtain ⟨u, v, rfl, h1, h2, h3⟩ := ih hbn
        exact ⟨a ++ u, v, (List.append_assoc ..).symm, .cons ha h1, h2, h3⟩

theorem fits_star' {a c : List UInt8} {x : T} (hx : tree 3 a = .ok x) (hc : tree 3 c = .ok (over 5 x)) (w : List UInt8) :
    fitsB (over 5 x) w = toB x w w.length := by
  rw [Bool.eq_iff_iff, fits_L hc, over, L_star, toB_star (fits_L hx) (w.length + 1) w.length (by omega) (Nat.le_refl _), List.take_length]
/-- once at least: the last of them -/
def someB (x : T) (l : List UInt8) : Nat → Bool
  | 0 => fitsB x []
  | i + 1 => reach x l (i + 1) (i + 1)
theorem fits_plus' {a c : List UInt8} {x : T} (hx : tree 3 a = .ok x) (hc : tree 3 c = .ok (over 6 x)) (w : List UInt8) :
    fitsB (over 6 x) w = someB x w w.length := by
  rw [Bool.eq_iff_iff, fits_L hc, over, L_plus (s' := noSet)]
  cases w with
  | nil =>
    show _ ↔ fitsB x [] = true
    rw [fits_L hx]
    constructor
    · rintro ⟨u, v, e, h1, h2⟩
      obtain ⟨rfl, rfl⟩ := List.append_eq_nil_iff.1 e.symm
      exact h1
    · intro h; exact ⟨[], [], rfl, h, .nil⟩
  | cons d w =>
    show _ ↔ reach x (d :: w) (w.length + 1) (w.length + 1) = true
    rw [← toB_succ, toB_star (fits_L hx) (w.length + 2) (w.length + 1) (by omega) (by simp), show (d :: w).take (w.length + 1) = d :: w from List.take_of_length_le (by simp)]
    constructor
    · rintro ⟨u, v, e, h1, h2⟩
      rw [e]; exact .cons h1 h2
    · intro h
      generalize hw : (d :: w : List UInt8) = y at h
      cases h with
      | nil => cases hw
      | cons h1 h2 => exact ⟨_, _, rfl, h1, h2⟩
end Go.Proofs.YtpiflikblpfgoaaDoor.PM
