/- The places alive, found round by round: plain. -/
import Derived.Test.YtfhggnbnbopkkaaDoorNfaWays
namespace Go.Proofs.YtfhggnbnbopkkaaDoor.PM

/-- how many are not in a set -/
def cntTo (A : Nat → Bool) : Nat → Nat
  | 0 => 0
  | m + 1 => cntTo A m + if A m then 0 else 1
theorem cntTo_le (A : Nat → Bool) : ∀ m, cntTo A m ≤ m
  | 0 => Nat.le_refl _
  | m + 1 => by have := cntTo_le A m; simp only [cntTo]; split <;> omega
theorem cntTo_add (A : Nat → Bool) (i : Nat) (h : A i = false) : ∀ m, cntTo (fun q => A q || q == i) m + (if i < m then 1 else 0) = cntTo A m
  | 0 => by simp [cntTo]
  | m + 1 => by
    have ih := cntTo_add A i h m
    simp only [cntTo]
    by_cases e : m = i
    · subst e
      simp [h] at ih ⊢
      omega
    · have e1 : (m == i) = false := by simpa using e
      simp only [e1, Bool.or_false]
      have e2 : (i < m + 1) = (i < m) := by apply propext; omega
      simp only [e2]
      omega

/-- the places alive so far -/
structure Fix (n : NS) (p : Part) (A : Nat → Bool) : Prop extends Alive n p A where
  base : ∀ q, p.last q = true → someP n q = true → A q = true
theorem Fix.start (n : NS) (p : Part) : Fix n p (fun q => p.last q && someP n q) := ⟨Alive.start n p, fun q h1 h2 => by rw [h1, h2]; rfl⟩
theorem Fix.add {n : NS} {p : Part} {A : Nat → Bool} (h : Fix n p A) {i r : Nat} (hs : someP n i = true) (hf : n.fol i r = true) (hr : A r = true) : Fix n p (fun q => A q || q == i) :=
  ⟨h.toAlive.add hs hf hr, fun q h1 h2 => by rw [h.base q h1 h2]; rfl⟩

/-- within a round: what was there, what is there, whether any came, up to where -/
structure Rnd (n : NS) (p : Part) (c0 : Nat) (A : Nat → Bool) (more : Bool) (i : Nat) : Prop where
  fix : Fix n p A
  le : cntTo A 64 ≤ c0
  some : more = true → cntTo A 64 < c0
  none : more = false → ∀ j, j < i → ∀ r, someP n j = true → n.fol j r = true → A r = true → A j = true
theorem Rnd.start {n : NS} {p : Part} {A : Nat → Bool} (h : Fix n p A) : Rnd n p (cntTo A 64) A false 0 := ⟨h, Nat.le_refl _, fun e => (by cases e), fun _ j hj => by omega⟩
theorem Rnd.put {n : NS} {p : Part} {c0 : Nat} {A : Nat → Bool} {more : Bool} {i r : Nat} (h : Rnd n p c0 A more i) (hi : i < 64) (hs : someP n i = true) (ha : A i = false) (hf : n.fol i r = true) (hr : A r = true) : Rnd n p c0 (fun q => A q || q == i) true (i + 1) := by
  have := cntTo_add A i ha 64
  rw [if_pos hi] at this
  have := h.le
  exact ⟨h.fix.add hs hf hr, by omega, fun _ => by omega, fun e => by cases e⟩
theorem Rnd.pass {n : NS} {p : Part} {c0 : Nat} {A : Nat → Bool} {more : Bool} {i : Nat} (h : Rnd n p c0 A more i) (hn : ∀ r, someP n i = true → n.fol i r = true → A r = true → A i = true) : Rnd n p c0 A more (i + 1) :=
  ⟨h.fix, h.le, h.some, fun e j hj => by
    by_cases hji : j = i
    · subst hji; exact hn
    · exact h.none e j (by omega)⟩
/-- nothing came: closed -/
theorem Rnd.closed {n : NS} {p : Part} {c0 : Nat} {A : Nat → Bool} (hok : n.Ok) (h : Rnd n p c0 A false n.k) : Closed n p A :=
  ⟨h.fix.toAlive, h.fix.base, fun q r hs hf hr => h.none rfl q (by obtain ⟨c, hc⟩ := (someP_iff n q).1 hs; exact hok.has _ _ hc) r hs hf hr⟩
end Go.Proofs.YtfhggnbnbopkkaaDoor.PM
