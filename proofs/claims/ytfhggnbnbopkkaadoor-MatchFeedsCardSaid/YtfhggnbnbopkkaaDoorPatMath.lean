/- Texts in quotes, in plain words: what stands for a byte, and how it is read again. -/
namespace Go.Proofs.YtfhggnbnbopkkaaDoor.PM

/-- does a byte stand for itself? -/
def plain (c : Nat) : Bool := 32 ≤ c && c ≤ 126 && c != 34 && c != 92
/-- the letter of a byte that has a short sign; 0: it has none -/
def short (c : Nat) : Nat := if c = 34 then 34 else if c = 92 then 92 else if c = 10 then 110 else if c = 13 then 114 else if c = 9 then 116 else 0
/-- a digit's byte -/
def dig (n : Nat) : UInt8 := UInt8.ofNat (if n < 10 then 48 + n else 87 + n)
/-- what stands for a byte -/
def sign (c : UInt8) : List UInt8 :=
  if plain c.toNat then [c] else if short c.toNat = 0 then [92, 120, dig (c.toNat / 16), dig (c.toNat % 16)] else [92, UInt8.ofNat (short c.toNat)]
def signs (s : List UInt8) : List UInt8 := s.flatMap sign
def quote (s : List UInt8) : List UInt8 := 34 :: (signs s ++ [34])

/-- a digit's number; 16: it is none -/
def undig (b : Nat) : Nat := if 48 ≤ b ∧ b ≤ 57 then b - 48 else if 97 ≤ b ∧ b ≤ 102 then b - 87 else 16
def okhi (b : Nat) : Bool := b == 48 || b == 49 || (55 ≤ b && b ≤ 57) || (97 ≤ b && b ≤ 102)
def oklo (h b : Nat) : Bool := decide (undig b < 16) && (!plain (16 * h + undig b) && short (16 * h + undig b) == 0)

/-- what the sign at a text's head stands for and how long it is, or the first byte that can't be -/
inductive Stp where
  | ok (c : UInt8) (n : Nat)
  | bad (k : Nat)
  deriving DecidableEq

def step : List UInt8 → Stp
  | [] => .bad 0
  | b :: r =>
    if plain b.toNat then .ok b 1 else if b.toNat = 92 then
      match r with
      | [] => .bad 1
      | x :: r2 =>
        if x.toNat = 34 ∨ x.toNat = 92 then .ok x 2 else if x.toNat = 110 then .ok 10 2 else if x.toNat = 114 then .ok 13 2 else if x.toNat = 116 then .ok 9 2
        else if x.toNat = 120 then
          match r2 with
          | [] => .bad 2
          | h :: r3 => if okhi h.toNat then
              match r3 with
              | [] => .bad 3
              | l :: _ => if oklo (undig h.toNat) l.toNat then .ok (UInt8.ofNat (16 * undig h.toNat + undig l.toNat)) 4 else .bad 3
            else .bad 2
        else .bad 1
    else .bad 0

theorem toNat_ofNat {n : Nat} (h : n < 256) : (UInt8.ofNat n).toNat = n := by rw [UInt8.toNat_ofNat']; omega
theorem u8_eq {a b : UInt8} (h : a.toNat = b.toNat) : a = b := UInt8.toNat_inj.1 h

theorem all_256 {p : Nat → Prop} [DecidablePred p] (h : ((List.range 256).all fun n => decide (p n)) = true) (c : UInt8) : p c.toNat := by
  have := List.all_eq_true.1 h c.toNat (List.mem_range.2 c.toNat_lt)
  exact of_decide_eq_true this

theorem short_facts (c : UInt8) : short c.toNat = 0 ∨ ((short c.toNat = 34 ∨ short c.toNat = 92) ∧ short c.toNat = c.toNat) ∨ (short c.toNat = 110 ∧ c.toNat = 10) ∨ (short c.toNat = 114 ∧ c.toNat = 13) ∨ (short c.toNat = 116 ∧ c.toNat = 9) := by
  unfold short
  split; · simp [*]
  split; · simp [*]
  split; · simp [*]
  split; · simp [*]
  split; · simp [*]
  simp

theorem dig_nat {n : Nat} (h : n < 16) : (dig n).toNat = if n < 10 then 48 + n else 87 + n := by
  unfold dig; rw [toNat_ofNat]; split <;> omega
theorem undig_dig {n : Nat} (h : n < 16) : undig (dig n).toNat = n := by
  rw [dig_nat h]; unfold undig
  by_cases h1 : n < 10
  · rw [if_pos h1, if_pos (by omega)]; omega
  · rw [if_neg h1, if_neg (by omega), if_pos (by omega)]; omega
theorem dig_undig {b : UInt8} (h : undig b.toNat < 16) : dig (undig b.toNat) = b := by
  apply u8_eq
  rw [dig_nat h]
  unfold undig at *
  by_cases h1 : 48 ≤ b.toNat ∧ b.toNat ≤ 57
  · rw [if_pos h1] at h ⊢; rw [if_pos (by omega)]; omega
  · rw [if_neg h1] at h ⊢
    by_cases h2 : 97 ≤ b.toNat ∧ b.toNat ≤ 102
    · rw [if_pos h2] at h ⊢; rw [if_neg (by omega)]; omega
    · rw [if_neg h2] at h; omega

theorem okhi_dig : ∀ c : UInt8, plain c.toNat = false → short c.toNat = 0 → okhi (dig (c.toNat / 16)).toNat = true := by
  intro c h1 h2
  have := all_256 (p := fun n => plain n = false → short n = 0 → okhi (if n / 16 < 10 then 48 + n / 16 else 87 + n / 16) = true) (by decide +kernel) c h1 h2
  rw [dig_nat (by have := c.toNat_lt; omega)]; exact this
theorem plain_92 : plain 92 = false := rfl

/-- what was written is read -/
theorem step_sign (c : UInt8) (r : List UInt8) : step (sign c ++ r) = .ok c (sign c).length := by
  unfold sign
  by_cases hp : plain c.toNat = true
  · rw [if_pos hp]; simp [step, hp]
  · rw [if_neg hp]
    have hp' : plain c.toNat = false := by simpa using hp
    by_cases hs : short c.toNat = 0
    · rw [if_pos hs]
      have h1 := okhi_dig c hp' hs
      have hlt := c.toNat_lt
      have h2 : undig (dig (c.toNat / 16)).toNat = c.toNat / 16 := undig_dig (by omega)
      have h3 : undig (dig (c.toNat % 16)).toNat = c.toNat % 16 := undig_dig (by omega)
      have h4 : 16 * (c.toNat / 16) + c.toNat % 16 = c.toNat := by omega
      have h5 : oklo (c.toNat / 16) (dig (c.toNat % 16)).toNat = true := by
        unfold oklo; rw [h3, h4, hp', hs]; simp; omega
      simp only [List.cons_append, List.nil_append, step]
      rw [if_neg (by decide), if_pos (by decide), if_neg (by decide), if_neg (by decide), if_neg (by decide), if_neg (by decide), if_pos (by decide)]
      rw [if_pos h1, h2, if_pos h5, h3, h4]
      simp
    · rw [if_neg hs]
      simp only [List.cons_append, List.nil_append, step]
      rw [if_neg (by decide), if_pos (by decide)]
      have hlt := c.toNat_lt
      rcases short_facts c with h | ⟨h1, h2⟩ | ⟨h1, h2⟩ | ⟨h1, h2⟩ | ⟨h1, h2⟩
      · exact absurd h hs
      · rw [toNat_ofNat (by omega), if_pos h1, h2]; simp
      · rw [h1]; have : c = 10 := u8_eq h2; subst this; rfl
      · rw [h1]; have : c = 13 := u8_eq h2; subst this; rfl
      · rw [h1]; have : c = 9 := u8_eq h2; subst this; rfl

/-- what is read was written so -/
theorem step_ok {l : List UInt8} {c : UInt8} {n : Nat} (h : step l = .ok c n) : n = (sign c).length ∧ l = sign c ++ l.drop n := by
  unfold step at h
  split at h
  · cases h
  · rename_i b r
    split at h
    · rename_i hp
      cases h
      simp [sign, hp]
    · split at h
      · rename_i hp hb
        have hb' : b = 92 := u8_eq hb
        subst hb'
        split at h
        · cases h
        · rename_i x r2
          split at h
          · rename_i hx
            cases h
            have h1 : plain c.toNat = false := by rcases hx with h | h <;> rw [h] <;> rfl
            have h2 : short c.toNat = c.toNat := by rcases hx with h | h <;> rw [h] <;> rfl
            have h3 : c.toNat ≠ 0 := by omega
            simp [sign, h1, h2, h3]
          · split at h
            · rename_i hx; cases h; have : x = 110 := u8_eq hx; subst this; exact ⟨rfl, rfl⟩
            · split at h
              · rename_i hx; cases h; have : x = 114 := u8_eq hx; subst this; exact ⟨rfl, rfl⟩
              · split at h
                · rename_i hx; cases h; have : x = 116 := u8_eq hx; subst this; exact ⟨rfl, rfl⟩
                · split at h
                  · rename_i hx
                    have : x = 120 := u8_eq hx
                    subst this
                    split at h
                    · cases h
                    · rename_i hh r3
                      split at h
                      · rename_i hhi
                        split at h
                        · cases h
                        · rename_i lo r4
                          split at h
                          · rename_i hlo
                            cases h
                            unfold oklo at hlo
                            rw [Bool.and_eq_true, Bool.and_eq_true, decide_eq_true_iff, beq_iff_eq] at hlo
                            obtain ⟨l1, l2, l3⟩ := hlo
                            have hu : undig hh.toNat < 16 := by
                              have := all_256 (p := fun n => okhi n = true → undig n < 16) (by decide +kernel) hh hhi
                              exact this
                            have e : (UInt8.ofNat (16 * undig hh.toNat + undig lo.toNat)).toNat = 16 * undig hh.toNat + undig lo.toNat := toNat_ofNat (by omega)
                            have l2' : plain (16 * undig hh.toNat + undig lo.toNat) = false := by simpa using l2
                            simp only [sign, e, l2', l3]
                            rw [show (16 * undig hh.toNat + undig lo.toNat) / 16 = undig hh.toNat by omega, show (16 * undig hh.toNat + undig lo.toNat) % 16 = undig lo.toNat by omega, dig_undig hu, dig_undig l1]
                            simp
                          · cases h
                      · cases h
                  · cases h
      · cases h

theorem sign_pos (c : UInt8) : 1 ≤ (sign c).length ∧ (sign c).length ≤ 4 := by
  unfold sign; split
  · simp
  · split <;> simp

/-- how far two texts are alike -/
def lcp : List UInt8 → List UInt8 → Nat
  | a :: r, b :: t => if a = b then lcp r t + 1 else 0
  | _, _ => 0

theorem lcp_le_left : ∀ (a b : List UInt8), lcp a b ≤ a.length
  | [], b => by simp [lcp]
  | a :: r, [] => by simp [lcp]
  | a :: r, b :: t => by
    simp only [lcp]; split
    · have := lcp_le_left r t; simp; omega
    · simp
theorem lcp_full : ∀ (a b : List UInt8), lcp a b = a.length → b = a ++ b.drop a.length
  | [], b, _ => by simp
  | a :: r, [], h => by simp [lcp] at h
  | a :: r, b :: t, h => by
    simp only [lcp] at h
    split at h
    · rename_i e; subst e
      have := lcp_full r t (by simpa using h)
      simp; exact this
    · simp at h
theorem lcp_self_append : ∀ (a r : List UInt8), lcp a (a ++ r) = a.length
  | [], r => by simp [lcp]
  | a :: l, r => by simp [lcp, lcp_self_append l r]

theorem sign_head (c : UInt8) : ∃ b r, sign c = b :: r ∧ (plain b.toNat = true ∧ r = [] ∨ b = 92 ∧ ∃ x r2, r = x :: r2 ∧ ((x.toNat = 34 ∨ x.toNat = 92 ∨ x.toNat = 110 ∨ x.toNat = 114 ∨ x.toNat = 116) ∧ r2 = [] ∨
    x = 120 ∧ ∃ h l, r2 = [h, l] ∧ okhi h.toNat = true ∧ oklo (undig h.toNat) l.toNat = true)) := by
  unfold sign
  by_cases hp : plain c.toNat = true
  · rw [if_pos hp]; exact ⟨c, [], rfl, .inl ⟨hp, rfl⟩⟩
  · rw [if_neg hp]
    have hp' : plain c.toNat = false := by simpa using hp
    by_cases hs : short c.toNat = 0
    · rw [if_pos hs]
      have hlt := c.toNat_lt
      have h2 : undig (dig (c.toNat / 16)).toNat = c.toNat / 16 := undig_dig (by omega)
      have h3 : undig (dig (c.toNat % 16)).toNat = c.toNat % 16 := undig_dig (by omega)
      have h4 : 16 * (c.toNat / 16) + c.toNat % 16 = c.toNat := by omega
      refine ⟨92, _, rfl, .inr ⟨rfl, 120, _, rfl, .inr ⟨rfl, _, _, rfl, okhi_dig c hp' hs, ?_⟩⟩⟩
      unfold oklo; rw [h2, h3, h4, hp', hs]; simp; omega
    · rw [if_neg hs]
      refine ⟨92, _, rfl, .inr ⟨rfl, _, [], rfl, .inl ⟨?_, rfl⟩⟩⟩
      have hlt := c.toNat_lt
      rcases short_facts c with h | ⟨h1, h2⟩ | ⟨h1, h2⟩ | ⟨h1, h2⟩ | ⟨h1, h2⟩
      · exact absurd h hs
      all_goals (rw [toNat_ofNat (by omega)]; omega)

/-- where no sign stands, the signs that go the furthest go just as far as 'step' says -/
theorem step_bad_le {l : List UInt8} {k : Nat} (h : step l = .bad k) (c : UInt8) : lcp (sign c) l ≤ k ∧ lcp (sign c) l < (sign c).length := by
  have hfull : lcp (sign c) l < (sign c).length := by
    rcases Nat.lt_or_eq_of_le (lcp_le_left (sign c) l) with h1 | h1
    · exact h1
    · have := lcp_full _ _ h1
      rw [this, step_sign] at h; cases h
  refine ⟨?_, hfull⟩
  obtain ⟨b, r, hs, hc⟩ := sign_head c
  rw [hs] at hfull ⊢
  cases l with
  | nil => simp [lcp]
  | cons b' l =>
    simp only [lcp] at hfull ⊢
    split
    · rename_i e; subst e
      rw [if_pos rfl] at hfull
      simp only [step] at h
      rcases hc with ⟨hp, rfl⟩ | ⟨rfl, x, r2, rfl, hc⟩
      · rw [if_pos hp] at h; cases h
      · rw [if_neg (by decide), if_pos (by decide)] at h
        cases l with
        | nil => simp only [lcp]; cases h; omega
        | cons x' l =>
          simp only [lcp] at hfull ⊢
          split
          · rename_i e; subst e
            rw [if_pos rfl] at hfull
            rcases hc with ⟨hx, rfl⟩ | ⟨rfl, hh, lo, rfl, h1, h2⟩
            · simp [lcp] at hfull
            · simp only [] at h
              rw [if_neg (by decide), if_neg (by decide), if_neg (by decide), if_neg (by decide), if_pos (by decide)] at h
              cases l with
              | nil => simp only [lcp]; cases h; omega
              | cons h' l =>
                simp only [lcp] at hfull ⊢
                split
                · rename_i e; subst e
                  rw [if_pos rfl] at hfull
                  simp only [] at h
                  rw [if_pos h1] at h
                  cases l with
                  | nil => simp only [lcp]; cases h; omega
                  | cons l' l =>
                    simp only [lcp] at hfull ⊢
                    split
                    · rename_i e; subst e
                      rw [if_pos rfl] at hfull
                      simp at hfull
                    · simp only [] at h
                      split at h <;> cases h
                      omega
                · simp only [] at h
                  split at h
                  · split at h
                    · cases h; omega
                    · split at h <;> cases h
                      omega
                  · cases h; omega
          · simp only [] at h
            split at h
            · cases h
            · split at h
              · cases h
              · split at h
                · cases h
                · split at h
                  · cases h
                  · split at h
                    · split at h
                      · cases h; omega
                      · split at h
                        · split at h
                          · cases h; omega
                          · split at h <;> cases h
                            omega
                        · cases h; omega
                    · cases h; omega
    · omega

theorem step_bad_far {l : List UInt8} {k : Nat} (h : step l = .bad k) (hk : 0 < k) : ∃ c : UInt8, lcp (sign c) l = k := by
  have hle := fun c => step_bad_le h c
  unfold step at h
  split at h
  · cases h; omega
  · rename_i b r
    split at h
    · cases h
    · split at h
      · rename_i hb
        have hb' : b = 92 := u8_eq hb
        subst hb'
        split at h
        · cases h; exact ⟨34, rfl⟩
        · rename_i x r2
          split at h
          · cases h
          · rename_i hx
            split at h
            · cases h
            · split at h
              · cases h
              · split at h
                · cases h
                · split at h
                  · rename_i hx2
                    have : x = 120 := u8_eq hx2
                    subst this
                    split at h
                    · cases h; exact ⟨0, rfl⟩
                    · rename_i hh r3
                      split at h
                      · rename_i hhi
                        have hu : undig hh.toNat < 16 ∧ ∃ c < 256, plain c = false ∧ short c = 0 ∧ c / 16 = undig hh.toNat := by
                          have := all_256 (p := fun n => okhi n = true → undig n < 16 ∧ ((List.range 256).any fun c => !plain c && short c == 0 && c / 16 == undig n) = true) (by decide +kernel) hh hhi
                          obtain ⟨h1, h2⟩ := this
                          obtain ⟨c, hc, h3⟩ := List.any_eq_true.1 h2
                          simp only [Bool.and_eq_true, Bool.not_eq_true', beq_iff_eq] at h3
                          exact ⟨h1, c, List.mem_range.1 hc, h3.1.1, h3.1.2, h3.2⟩
                        obtain ⟨hu, c, hc, hc1, hc2, hc3⟩ := hu
                        have e : (UInt8.ofNat c).toNat = c := toNat_ofNat hc
                        have hs : sign (UInt8.ofNat c) = [92, 120, hh, dig (c % 16)] := by
                          unfold sign; rw [e, hc1, if_neg (by simp), if_pos hc2, hc3, dig_undig hu]
                        have h4 := (hle (UInt8.ofNat c)).2
                        refine ⟨UInt8.ofNat c, ?_⟩
                        rw [hs] at h4 ⊢
                        split at h
                        · cases h; simp [lcp]
                        · split at h <;> cases h
                          simp only [lcp, if_true] at h4 ⊢
                          split at h4
                          · simp at h4
                          · rename_i e4; rw [if_neg e4]
                      · rename_i hhi
                        cases h
                        refine ⟨0, ?_⟩
                        rw [show sign 0 = [92, 120, 48, 48] from rfl]
                        simp only [lcp, if_true]
                        rw [if_neg]
                        intro e; subst e; exact hhi rfl
                  · rename_i h1 h2 h3 h4
                    cases h
                    refine ⟨34, ?_⟩
                    rw [show sign 34 = [92, 34] from rfl]
                    simp only [lcp, if_true]
                    rw [if_neg]
                    intro e; subst e; exact hx (Or.inl rfl)
      · cases h; omega

theorem step_full {l : List UInt8} {c : UInt8} (h : lcp (sign c) l = (sign c).length) : step l = .ok c (sign c).length := by
  have := lcp_full _ _ h
  rw [this, step_sign]

/-- what stands in quotes -/
inductive Sc where
  | ok (out : List UInt8) (places : List Nat)
  | wrong (at' : Nat)
  | long (at' : Nat)

/-- behind the first quote -/
def scanL (most : Int) : Nat → List UInt8 → Nat → List UInt8 → List Nat → Sc
  | 0, _, a, _, _ => .wrong a
  | f + 1, l, a, out, pl =>
    if (out.length : Int) = most ∧ l.head? ≠ some 34 then .long a
    else if l.head? = some 34 then .ok out (pl ++ [a])
    else match step l with
      | .ok c n => scanL most f (l.drop n) (a + n) (out ++ [c]) (pl ++ [a])
      | .bad k => .wrong (a + k)

def scan (most : Int) (s : List UInt8) (a : Nat) : Sc :=
  if (s.drop a).head? = some 34 then scanL most (s.length + 1) (s.drop (a + 1)) (a + 1) [] [] else .wrong a

theorem step_pos {l : List UInt8} {c : UInt8} {n : Nat} (h : step l = .ok c n) : 1 ≤ n ∧ n ≤ l.length := by
  obtain ⟨h1, h2⟩ := step_ok h
  have := sign_pos c
  refine ⟨by omega, ?_⟩
  have := congrArg List.length h2
  rw [List.length_append, List.length_drop] at this
  omega

/-- more rounds than bytes make no difference -/
theorem scanL_more {most : Int} : ∀ (f g : Nat) (l : List UInt8) (a : Nat) (out : List UInt8) (pl : List Nat), l.length < f → l.length < g → scanL most f l a out pl = scanL most g l a out pl
  | 0, _, l, a, out, pl, h, _ => by omega
  | _, 0, l, a, out, pl, _, h => by omega
  | f + 1, g + 1, l, a, out, pl, hf, hg => by
    simp only [scanL]
    split
    · rfl
    · split
      · rfl
      · split
        · rename_i c n hs
          have := step_pos hs
          exact scanL_more f g _ _ _ _ (by rw [List.length_drop]; omega) (by rw [List.length_drop]; omega)
        · rfl

end Go.Proofs.YtfhggnbnbopkkaaDoor.PM
