/- What Quoted reads, in plain words: a limit, and what is read. -/
import Derived.Test.YtlfhjmdbkifciaaPatQuotes
namespace Go.Proofs.Ytlfhjmdbkifciaa
open Go.RowKit PM

/-- how far the right signs go: at most so many -/
def runL (L : Nat) : Nat → List UInt8 → Nat → Nat → Nat × Nat
  | 0, _, n, a => (n, a)
  | f + 1, l, n, a =>
    if n < L ∧ l ≠ [] ∧ l.head? ≠ some 34 then
      match PM.step l with
      | .ok _ k => runL L f (l.drop k) (n + 1) (a + k)
      | .bad _ => (n, a)
    else (n, a)

/-- a limit turns the answer only where a byte too many begins -/
theorem scanL_limit (L : Nat) (s : List UInt8) : ∀ (f : Nat) (a : Nat) (out : List UInt8) (pl : List Nat) (p : Nat × Nat), s.length - a < f → a ≤ s.length → out.length ≤ L → runL L f (s.drop a) out.length a = p →
    scanL L f (s.drop a) a out pl = if p.1 = L ∧ (s.drop p.2).head? ≠ some 34 then .long p.2 else scanL (-1) f (s.drop a) a out pl
  | f + 1, a, out, pl, p, hf, ha, ho, hr => by
    simp only [scanL, runL] at hr ⊢
    have hm : ¬ ((out.length : Int) = -1 ∧ (s.drop a).head? ≠ some 34) := fun h => by omega
    rw [if_neg hm]
    by_cases h34 : (s.drop a).head? = some 34
    · rw [if_neg (fun h => h.2.2 h34)] at hr
      subst hr
      rw [if_neg (fun h => h.2 h34), if_pos h34, if_neg (fun h => h.2 h34), if_pos h34]
    · rw [if_neg h34]
      by_cases hL : out.length = L
      · rw [if_neg (fun h => by omega)] at hr
        subst hr
        rw [if_pos ⟨by omega, h34⟩, if_pos ⟨hL, h34⟩]
      · rw [if_neg (fun h => hL (by omega)), if_neg h34]
        by_cases hnil : s.drop a = []
        · rw [if_neg (fun h => h.2.1 hnil)] at hr
          subst hr
          rw [if_neg (fun h => hL h.1), hnil]; rfl
        · rw [if_pos ⟨by omega, hnil, h34⟩] at hr
          cases hst : PM.step (s.drop a) with
          | bad k =>
            rw [hst] at hr
            simp only [] at hr ⊢
            subst hr
            rw [if_neg (fun h => hL h.1)]
          | ok c k =>
            rw [hst] at hr
            simp only [] at hr ⊢
            have hp := step_pos hst
            rw [List.length_drop] at hp
            rw [List.drop_drop] at hr ⊢
            exact scanL_limit L s f (a + k) (out ++ [c]) (pl ++ [a]) p (by omega) (by omega) (by simp; omega) (by rw [List.length_append, List.length_singleton]; exact hr)

theorem scan_limit {L : Nat} {s : List UInt8} {P : Nat × Nat} (hP : runL L (s.length + 1) (s.drop 1) 0 1 = P) :
    scan L s 0 = if (s.head? = some 34 ∧ P.1 = L) ∧ (s.drop P.2).head? ≠ some 34 then .long P.2 else scan (-1) s 0 := by
  unfold scan
  rw [List.drop_zero]
  by_cases h : s.head? = some 34
  · rw [if_pos h, if_pos h]
    have hl : 1 ≤ s.length := by cases s with
      | nil => simp at h
      | cons a t => simp
    rw [scanL_limit L s (s.length + 1) 1 [] [] P (by omega) hl (by simp) hP]
    simp only [h, true_and]
  · rw [if_neg h, if_neg h, if_neg (fun k => h k.1.1)]

/-- what was read stands there -/
theorem scanL_read {most : Int} : ∀ (f : Nat) (l : List UInt8) (a : Nat) (out : List UInt8) (pl : List Nat) {o : List UInt8} {q : List Nat}, scanL most f l a out pl = .ok o q →
    ∃ x r, o = out ++ x ∧ l = signs x ++ 34 :: r ∧ q.getLastD 0 = a + (signs x).length ∧ (0 ≤ most → (out.length : Int) ≤ most → (o.length : Int) ≤ most)
  | 0, l, a, out, pl, o, q, h => by simp [scanL] at h
  | f + 1, l, a, out, pl, o, q, h => by
    simp only [scanL] at h
    split at h
    · cases h
    · rename_i hlong
      split at h
      · rename_i hh
        cases h
        obtain ⟨r, hr⟩ : ∃ r, l = 34 :: r := by
          cases l with
          | nil => simp at hh
          | cons b r => simp at hh; exact ⟨r, by rw [hh]⟩
        exact ⟨[], r, by simp, by simp [signs, hr], by simp [signs], fun _ h => h⟩
      · rename_i h34
        split at h
        · rename_i c n hs
          obtain ⟨h1, h2⟩ := step_ok hs
          obtain ⟨x, r, e1, e2, e3, e4⟩ := scanL_read f _ _ _ _ h
          refine ⟨c :: x, r, by rw [e1]; simp, ?_, ?_, fun h0 hl => ?_⟩
          · rw [h2, e2]; simp [signs]
          · rw [e3, h1]; simp [signs]; omega
          · have : (out.length : Int) ≠ most := fun e => hlong ⟨e, h34⟩
            exact e4 h0 (by rw [List.length_append, List.length_singleton]; omega)
        · cases h

theorem scan_read {most : Int} {s o : List UInt8} {q : List Nat} (h : scan most s 0 = .ok o q) : ∃ r, s = quote o ++ r ∧ q.getLastD 0 + 1 = (quote o).length ∧ (0 ≤ most → (o.length : Int) ≤ most) := by
  unfold scan at h
  split at h
  · rename_i hh
    obtain ⟨x, r, e1, e2, e3, e4⟩ := scanL_read _ _ _ _ _ h
    rw [List.nil_append] at e1
    subst e1
    refine ⟨r, ?_, ?_, fun h0 => e4 h0 (by simpa using h0)⟩
    · rw [List.drop_zero] at hh
      cases s with
      | nil => simp at hh
      | cons b t =>
        simp at hh e2
        subst hh
        rw [e2]; simp [quote]
    · rw [e3]; simp [quote]; omega
  · cases h
end Go.Proofs.Ytlfhjmdbkifciaa
