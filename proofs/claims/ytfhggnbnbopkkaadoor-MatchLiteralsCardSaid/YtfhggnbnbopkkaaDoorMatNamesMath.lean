/- The limits of a matcher's window: plain. -/
import Derived.Test.YtfhggnbnbopkkaaDoorMatMath
namespace Go.Proofs.YtfhggnbnbopkkaaDoor.PM

/-- a*z -/
def tG : T := joined 3 [one 97, over 5 every, one 122]
theorem tree_G : tree 2 [97, 42, 122] = .ok tG := by rfl
theorem fits_G (l : List UInt8) : fitsB tG l = true ↔ ∃ m, l = 97 :: (m ++ [122]) := by
  rw [fitsB_iff (T.OK.wf (tree_ok tree_G).1) l]
  unfold tG
  rw [L_joined3, L_catCons]
  constructor
  · rintro ⟨u, v, rfl, hu, hv⟩
    obtain rfl := (L_one (c := 97)).1 hu
    obtain ⟨u2, v2, rfl, _, hv2⟩ := L_catCons.1 hv
    obtain ⟨u3, v3, rfl, hu3, hv3⟩ := L_catCons.1 hv2
    obtain rfl := (L_one (c := 122)).1 hu3
    obtain rfl := L_catNil.1 hv3
    exact ⟨u2, by simp⟩
  · rintro ⟨m, rfl⟩
    refine ⟨[97], m ++ [122], rfl, (L_one (c := 97)).2 rfl, L_catCons.2 ⟨m, [122], rfl, L_any m, L_catCons.2 ⟨[122], [], rfl, (L_one (c := 122)).2 rfl, L_catNil.2 rfl⟩⟩⟩
theorem hit_G {l : List UInt8} (h : ∀ p m, p < l.length → l.drop p ≠ 97 :: (m ++ [122])) : hitOf [tG] l = none := by
  rw [hitOf_none]
  intro t ht
  rw [List.mem_singleton.1 ht, fromOf_none]
  intro p hp
  cases hf : fitsB tG (l.drop p) with
  | false => rfl
  | true =>
    obtain ⟨m, hm⟩ := (fits_G _).1 hf
    exact absurd hm (h p m hp)
theorem hit_no122 {l : List UInt8} (h : (122 : UInt8) ∉ l) : hitOf [tG] l = none := hit_G fun p m _ e => h (List.mem_of_mem_drop (i := p) (by rw [e]; simp))
theorem hit_no97 {l : List UInt8} (h : (97 : UInt8) ∉ l) : hitOf [tG] l = none := hit_G fun p m _ e => h (List.mem_of_mem_drop (i := p) (by rw [e]; simp))
theorem keep_sub {a : UInt8} {l : List UInt8} (h : a ∉ l) : a ∉ keep l := fun e => h (List.mem_of_mem_drop e)
theorem feed_no122 : ∀ (s kept : List UInt8), (122 : UInt8) ∉ kept ++ s → feed [tG] kept s = (s.length, none, keep (kept ++ s)) ∨ s = []
  | [], _, _ => .inr rfl
  | c :: s, kept, h => by
    left
    have h1 : (122 : UInt8) ∉ kept ++ [c] := fun e => h (by
      rw [List.mem_append] at e ⊢
      rcases e with e | e
      · exact .inl e
      · exact .inr (by rw [List.mem_singleton.1 e]; simp))
    have h2 : (122 : UInt8) ∉ keep (kept ++ [c]) ++ s := fun e => by
      rcases List.mem_append.1 e with e | e
      · exact keep_sub h1 e
      · exact h (by simp [e])
    unfold feed
    rw [hit_no122 (keep_sub h1)]
    simp only []
    rcases feed_no122 s (keep (kept ++ [c])) h2 with e | e
    · rw [e, keep_append, List.append_assoc, List.singleton_append, List.length_cons]
    · subst e
      simp only [feed, List.length_cons, List.length_nil]
def xs (n : Nat) : List UInt8 := List.replicate n 120
theorem xs_no {a : UInt8} (h : a ≠ 120) (n : Nat) : a ∉ xs n := fun e => h (List.mem_replicate.1 e).2
theorem ax_no (n : Nat) : (122 : UInt8) ∉ [] ++ (97 :: xs n) := by
  simp only [List.nil_append, List.mem_cons, not_or]
  exact ⟨by decide, xs_no (by decide) n⟩
theorem xs_len (n : Nat) : (xs n).length = n := List.length_replicate
theorem feed_ax (n : Nat) : feed [tG] [] (97 :: xs n) = (n + 1, none, keep (97 :: xs n)) := by
  rcases feed_no122 (97 :: xs n) [] (ax_no n) with e | e
  · rw [e, List.length_cons, xs_len]; rfl
  · cases e
theorem names_hit' (n : Nat) (hn : n = 254) : feed [tG] [] (97 :: xs n ++ [122]) = (256, some (0, 0, 256), []) := by
  have h := feed_snoc [tG] (97 :: xs n) [] 122 (by rw [feed_ax])
  rw [h, feed_ax]
  have hk : keep (97 :: xs n) = 97 :: xs n := keep_short (by rw [List.length_cons, xs_len]; omega)
  have hl : (97 :: (xs n ++ [122])).length = n + 2 := by rw [List.length_cons, List.length_append, xs_len]; rfl
  have hk2 : keep (97 :: (xs n ++ [122])) = 97 :: (xs n ++ [122]) := keep_short (by rw [hl]; omega)
  have hh : hitOf [tG] (97 :: (xs n ++ [122])) = some (0, 0) := hitOf_some.2 ⟨tG, rfl, fromOf_some.2 ⟨by rw [hl]; omega, (fits_G _).2 ⟨xs n, rfl⟩, fun q hq => by omega⟩, fun b t' hb => by omega⟩
  simp only [hk, List.cons_append, hk2, hh, List.length_cons, xs_len, List.length_append]
  subst hn
  rfl
theorem names_hit : feed [tG] [] (97 :: xs 254 ++ [122]) = (256, some (0, 0, 256), []) := names_hit' 254 rfl
theorem names_miss' (n : Nat) (hn : n = 255) : (feed [tG] [] (97 :: xs n ++ [122])).1 = 257 ∧ (feed [tG] [] (97 :: xs n ++ [122])).2.1 = none ∧ (feed [tG] [] (97 :: xs n ++ [122])).2.2.length = 256 := by
  have h := feed_snoc [tG] (97 :: xs n) [] 122 (by rw [feed_ax])
  have hk : keep (97 :: xs n) = 97 :: xs n := keep_short (by rw [List.length_cons, xs_len]; omega)
  have hl : (97 :: (xs n ++ [122])).length = n + 2 := by rw [List.length_cons, List.length_append, xs_len]; rfl
  have hk2 : keep (97 :: (xs n ++ [122])) = xs n ++ [122] := by
    unfold keep keepN
    rw [hl, show n + 2 - 256 = 1 by omega]; rfl
  have hh : hitOf [tG] (xs n ++ [122]) = none := hit_no97 (by
    rw [List.mem_append, not_or]
    exact ⟨xs_no (by decide) _, by decide⟩)
  rw [feed_ax] at h
  simp only [hk, List.cons_append, hk2, hh, List.length_cons, xs_len] at h
  have e : 97 :: xs n ++ [122] = 97 :: (xs n ++ [122]) := rfl
  rw [e, h]
  refine ⟨by show n + 1 + 1 = 257; omega, rfl, ?_⟩
  show (xs n ++ [122]).length = 256
  rw [List.length_append, xs_len]
  show n + 1 = 256
  omega
theorem names_miss : (feed [tG] [] (97 :: xs 255 ++ [122])).1 = 257 ∧ (feed [tG] [] (97 :: xs 255 ++ [122])).2.1 = none ∧ (feed [tG] [] (97 :: xs 255 ++ [122])).2.2.length = 256 := names_miss' 255 rfl
end Go.Proofs.YtfhggnbnbopkkaaDoor.PM
