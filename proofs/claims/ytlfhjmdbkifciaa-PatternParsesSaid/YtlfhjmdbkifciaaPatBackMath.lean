/- A pattern and its text, there and back, in plain words. -/
import Derived.Test.YtlfhjmdbkifciaaPatParse2
import Derived.Test.YtlfhjmdbkifciaaPatQuotes
import Derived.Test.YtlfhjmdbkifciaaPatBeg
namespace Go.Proofs.Ytlfhjmdbkifciaa
open PM
namespace PM

/-- what stands ahead of a kind's quotes -/
def wordW (k : Nat) : List UInt8 := if k = 2 then globW else if k = 3 then reW else []
def printL (k : Nat) (s : List UInt8) : List UInt8 := wordW k ++ quote s
/-- what Print tells -/
def printR (kind : Int) (s : List UInt8) : List UInt8 := match tree kind s with | .ok _ => printL kind.toNat s | _ => []

theorem off_word : ∀ (w t : List UInt8) (k : Nat), off w (w ++ t) k = none
  | [], t, k => rfl
  | c :: w, t, k => by simp only [List.cons_append, off]; rw [if_pos trivial]; exact off_word w t _
theorem off_none : ∀ (w s : List UInt8) (k : Nat), off w s k = none → ∃ t, s = w ++ t
  | [], s, k, _ => ⟨s, rfl⟩
  | c :: w, [], k, h => by simp [off] at h
  | c :: w, d :: t, k, h => by
    simp only [off] at h
    split at h
    · rename_i e; subst e
      obtain ⟨r, rfl⟩ := off_none w t _ h
      exact ⟨r, rfl⟩
    · cases h
theorem off_le : ∀ (w s : List UInt8) (k : Nat) {j : Nat}, off w s k = some j → j ≤ k + s.length
  | [], s, k, j, h => by simp [off] at h
  | c :: w, [], k, j, h => by simp only [off, Option.some.injEq] at h; omega
  | c :: w, d :: t, k, j, h => by
    simp only [off] at h
    split at h
    · have := off_le w t _ h; simp only [List.length_cons]; omega
    · simp only [Option.some.injEq] at h; omega

theorem signs_ge (s : List UInt8) : s.length ≤ (signs s).length := by
  induction s with
  | nil => simp
  | cons c s ih => have := (sign_pos c).1; simp only [signs, List.flatMap_cons, List.length_append, List.length_cons] at *; omega

theorem scan_print (k : Nat) (s : List UInt8) : ∃ q, scan (-1) (printL k s) (wordW k).length = .ok s (q ++ [(wordW k).length + 1 + (signs s).length]) := by
  obtain ⟨q, hq⟩ := scanL_signs s ((printL k s).length + 1) ((wordW k).length + 1) [] [] (by
    have := signs_ge s
    simp [printL, quote]; omega)
  refine ⟨q, ?_⟩
  unfold scan
  have h1 : (printL k s).drop (wordW k).length = quote s := by rw [printL, List.drop_left]
  have h2 : (printL k s).drop ((wordW k).length + 1) = signs s ++ [34] := by rw [← List.drop_drop, h1]; rfl
  rw [h1, h2, if_pos (show (quote s).head? = some 34 from rfl), hq]
  rfl

theorem pre_print {k : Nat} (hk : k = 1 ∨ k = 2 ∨ k = 3) (s : List UInt8) : pre (printL k s) = .at k (wordW k).length := by
  have h103 : ∀ r : List UInt8, ¬ (34 :: r : List UInt8).head? = globW.head? := fun r => by simp [globW]
  have h114 : ∀ r : List UInt8, ¬ (34 :: r : List UInt8).head? = reW.head? := fun r => by simp [reW]
  rcases hk with rfl | rfl | rfl
  · show pre (34 :: (signs s ++ [34])) = _
    unfold pre
    simp only [preOne]
    rw [if_neg (h103 _)]
    simp only []
    rw [if_neg (h114 _)]; rfl
  · show pre (globW ++ quote s) = _
    unfold pre
    simp only [preOne]
    rw [if_pos (show (globW ++ quote s).head? = globW.head? from rfl), off_word]
    simp only []
    rw [if_neg (show ¬ (globW ++ quote s).head? = reW.head? by simp [globW, reW])]; rfl
  · show pre (reW ++ quote s) = _
    unfold pre
    simp only [preOne]
    rw [if_neg (show ¬ (reW ++ quote s).head? = globW.head? by simp [globW, reW])]
    simp only []
    rw [if_pos (show (reW ++ quote s).head? = reW.head? from rfl), off_word]; rfl

/-- what was printed is read -/
theorem parse_print {k : Nat} (hk : k = 1 ∨ k = 2 ∨ k = 3) {s : List UInt8} {t : T} (ht : tree k s = .ok t) : parse (printL k s) = .ok k s := by
  obtain ⟨q, hq⟩ := scan_print k s
  unfold parse
  rw [pre_print hk]
  simp only [parseAt]
  rw [hq]
  simp only []
  rw [if_neg (by simp [printL, quote]; omega), ht]

theorem pre_word {s : List UInt8} {k a : Nat} (h : pre s = .at k a) : (k = 1 ∨ k = 2 ∨ k = 3) ∧ a = (wordW k).length ∧ ∃ r, s = wordW k ++ r := by
  unfold pre preOne at h
  split at h
  · cases h
  · rename_i a' b' he
    split at h
    · split at h
      · cases h
      · rename_i ho
        cases h
        exact ⟨.inr (.inr rfl), rfl, off_none _ _ _ ho⟩
    · cases h
      simp only [] at he
      split at he
      · split at he
        · cases he
        · rename_i ho; cases he; exact ⟨.inr (.inl rfl), rfl, off_none _ _ _ ho⟩
      · cases he; exact ⟨.inl rfl, rfl, s, rfl⟩

/-- what is read was printed so -/
theorem parse_read {s o : List UInt8} {k : Nat} (h : parse s = .ok k o) : (k = 1 ∨ k = 2 ∨ k = 3) ∧ s = printL k o ∧ ∃ t, tree k o = .ok t := by
  unfold parse at h
  split at h
  · cases h
  · rename_i kd a hp
    obtain ⟨hk, rfl, r, rfl⟩ := pre_word hp
    unfold parseAt at h
    split at h
    · cases h
    · cases h
    · rename_i out pl hs
      split at h
      · cases h
      · rename_i hend
        split at h <;> cases h
        rename_i t ht
        refine ⟨hk, ?_, t, ht⟩
        unfold scan at hs
        split at hs
        · rename_i hh
          rw [List.drop_left] at hh
          obtain ⟨x, r2, e1, e2, e3, _⟩ := scanL_read _ _ _ _ _ hs
          rw [List.nil_append] at e1
          subst e1
          rw [← List.drop_drop, List.drop_left] at e2
          cases r with
          | nil => simp at hh
          | cons b r =>
            simp only [List.head?_cons, Option.some.injEq] at hh
            subst hh
            simp only [List.drop_succ_cons, List.drop_zero] at e2
            subst e2
            rw [e3] at hend
            have : r2 = [] := by
              cases r2 with
              | nil => rfl
              | cons y l => exfalso; simp at hend; omega
            subst this
            simp [printL, quote]
        · cases hs

theorem step_bad_len {l : List UInt8} {k : Nat} (h : step l = .bad k) : k ≤ l.length := by
  unfold step at h
  split at h
  · cases h; simp
  · split at h
    · cases h
    · split at h
      · split at h
        · cases h; simp
        · split at h
          · cases h
          · split at h
            · cases h
            · split at h
              · cases h
              · split at h
                · cases h
                · split at h
                  · split at h
                    · cases h; simp
                    · split at h
                      · split at h
                        · cases h; simp
                        · split at h <;> cases h
                          simp
                      · cases h; simp
                  · cases h; simp
      · cases h; simp

theorem scanL_wrong_le {most : Int} (N : Nat) : ∀ (f : Nat) (l : List UInt8) (a : Nat) (out : List UInt8) (pl : List Nat) {k : Nat}, scanL most f l a out pl = .wrong k → a + l.length ≤ N → k ≤ N
  | 0, l, a, out, pl, k, h, hN => by simp [scanL] at h; omega
  | f + 1, l, a, out, pl, k, h, hN => by
    simp only [scanL] at h
    split at h
    · cases h
    · split at h
      · cases h
      · split at h
        · rename_i c n hs
          have := step_pos hs
          exact scanL_wrong_le N f _ _ _ _ h (by rw [List.length_drop]; omega)
        · rename_i j hs
          have := step_bad_len hs
          cases h; omega
theorem scan_wrong_le {most : Int} {s : List UInt8} {a k : Nat} (h : scan most s a = .wrong k) (ha : a ≤ s.length) : k ≤ s.length := by
  unfold scan at h
  split at h
  · rename_i hh
    have : a < s.length := by
      rcases Nat.lt_or_ge a s.length with h1 | h1
      · exact h1
      · rw [List.drop_eq_nil_of_le h1] at hh; simp at hh
    exact scanL_wrong_le s.length _ _ _ _ _ h (by rw [List.length_drop]; omega)
  · cases h; exact ha

theorem pre_bad_le {s : List UInt8} {k : Nat} (h : pre s = .bad k) : k ≤ s.length := by
  unfold pre preOne at h
  split at h
  · rename_i j he
    cases h
    simp only [] at he
    split at he
    · split at he
      · rename_i ho; cases he; have := off_le _ _ _ ho; omega
      · cases he
    · cases he
  · split at h
    · split at h
      · rename_i ho; cases h; have := off_le _ _ _ ho; omega
      · cases h
    · cases h

/-- where it is wrong lies in the text, or at its end -/
theorem parse_bad {s : List UInt8} {e k : Nat} (h : parse s = .bad e k) : k ≤ s.length ∧ (e = 2 ∨ e = 3 ∨ e = 6) := by
  unfold parse at h
  split at h
  · rename_i hp; cases h; exact ⟨pre_bad_le hp, .inr (.inr rfl)⟩
  · rename_i kd a hp
    obtain ⟨hk, rfl, r, rfl⟩ := pre_word hp
    unfold parseAt at h
    split at h
    · rename_i hs; cases h; exact ⟨scan_wrong_le hs (by simp), .inr (.inr rfl)⟩
    · rename_i hs; exact absurd hs (scan_not_long _ _ _)
    · rename_i out pl hs
      obtain ⟨_, hpl, _⟩ := scan_places hs
      have hg : ∀ i, pl.getD i 0 ≤ (wordW kd ++ r).length := fun i => by
        rw [List.getD]
        cases hi : pl[i]? with
        | none => simp
        | some x => have := hpl x (List.mem_of_getElem? hi); simp only [Option.getD_some]; omega
      split at h
      · rename_i hlt; cases h; exact ⟨by omega, .inr (.inr rfl)⟩
      · split at h <;> cases h
        · exact ⟨hg _, .inl rfl⟩
        · exact ⟨hg _, .inr (.inl rfl)⟩
        · exact ⟨hg _, .inr (.inr rfl)⟩
end PM
end Go.Proofs.Ytlfhjmdbkifciaa
