/- A number's lowest bit, in plain words. -/
import Derived.Test.YtfhggnbnbopkkaaDoorPatNode
import Derived.Lib.TrailingZeros
import Derived.Test.YtfhggnbnbopkkaaDoorNfaWays
import Derived.Test.YtfhggnbnbopkkaaDoorPatRe
import Derived.Shelf.Spec.TrailingZeros

namespace Go.Proofs.YtfhggnbnbopkkaaDoor.PM

/-- a set of places as a number -/
def B64 (p : Nat → Bool) : Nat := bitsOf p 64
theorem B64_lt (p : Nat → Bool) : B64 p < 18446744073709551616 := bitsOf_lt _ 64
theorem B64_test (p : Nat → Bool) (k : Nat) : (B64 p).testBit k = (decide (k < 64) && p k) := bitsOf_test p 64 k
theorem B64_eq {p : Nat → Bool} {x : Nat} (h : ∀ k, x.testBit k = (decide (k < 64) && p k)) : x = B64 p := Nat.eq_of_testBit_eq fun k => by rw [h, B64_test]
theorem B64_congr {p q : Nat → Bool} (h : ∀ k, k < 64 → p k = q k) : B64 p = B64 q := B64_eq fun k => by rw [B64_test]; by_cases hk : k < 64 <;> simp [hk, h]
theorem B64_or (p q : Nat → Bool) : B64 p ||| B64 q = B64 fun k => p k || q k := B64_eq fun k => by rw [Nat.testBit_or, B64_test, B64_test]; by_cases hk : k < 64 <;> simp [hk]
theorem B64_and (p q : Nat → Bool) : B64 p &&& B64 q = B64 fun k => p k && q k := B64_eq fun k => by rw [Nat.testBit_and, B64_test, B64_test]; by_cases hk : k < 64 <;> simp [hk]
theorem B64_none : B64 (fun _ => false) = 0 := (B64_eq (x := 0) fun k => by simp).symm
theorem B64_zero_iff (p : Nat → Bool) : B64 p = 0 ↔ ∀ k, k < 64 → p k = false := by
  constructor
  · intro h k hk
    have := B64_test p k
    rw [h, Nat.zero_testBit] at this
    simpa [hk] using this.symm
  · intro h
    rw [← B64_none]; exact B64_congr h
theorem B64_one {i : Nat} (h : i < 64) : 2 ^ i = B64 fun k => k == i := B64_eq fun k => by
  rw [Nat.testBit_two_pow]
  by_cases hk : k < 64
  · simp only [hk, decide_true, Bool.true_and]
    by_cases e : i = k
    · subst e; simp
    · have : ¬ k = i := fun x => e x.symm
      simp [e, this]
  · have : ¬ i = k := by omega
    simp [hk, this]
theorem B64_ne_zero {p : Nat → Bool} : B64 p ≠ 0 ↔ ∃ k, k < 64 ∧ p k = true := by
  rw [Ne, B64_zero_iff]
  constructor
  · intro h
    refine Classical.byContradiction fun hn => h fun k hk => ?_
    cases hp : p k with
    | false => rfl
    | true => exact absurd ⟨k, hk, hp⟩ hn
  · rintro ⟨k, hk, hp⟩ h
    rw [h k hk] at hp; cases hp

/-- the lowest bit, and the number without it -/
theorem low_bit {x : Nat} (h0 : x ≠ 0) (hx : x < 18446744073709551616) : Lib.ctz 64 x < 64 ∧ x.testBit (Lib.ctz 64 x) = true ∧ (∀ j, (x &&& (x - 1)).testBit j = (x.testBit j && j != Lib.ctz 64 x)) ∧ x &&& (x - 1) < x := by
  have hc : Lib.ctz 64 x = Lib.ctzFrom 64 x := by unfold Lib.ctz; rw [if_neg h0]
  obtain ⟨m, hm, hk⟩ := Lib.ctzFrom_spec 64 x (by omega) hx
  rw [hc]
  generalize Lib.ctzFrom 64 x = k at *
  have hp : 0 < 2 ^ k := Nat.two_pow_pos k
  have hx1 : x = 2 ^ k * (2 * m + 1) + 0 := by omega
  have hx2 : x - 1 = 2 ^ k * (2 * m) + (2 ^ k - 1) := by
    rw [hm, Nat.mul_add, Nat.mul_one]; omega
  have t1 : ∀ j, x.testBit j = if j < k then false else (2 * m + 1).testBit (j - k) := fun j => by
    rw [hx1, Nat.testBit_two_pow_mul_add _ hp]; split <;> simp
  have t2 : ∀ j, (x - 1).testBit j = if j < k then true else (2 * m).testBit (j - k) := fun j => by
    rw [hx2, Nat.testBit_two_pow_mul_add _ (by omega)]
    split
    · rename_i h; rw [Nat.testBit_two_pow_sub_one]; simpa using h
    · rfl
  refine ⟨hk, ?_, fun j => ?_, ?_⟩
  · rw [t1]; simp [Nat.testBit_zero]
  · rw [Nat.testBit_and, t1, t2]
    by_cases hj : j < k
    · simp [hj]
    · rw [if_neg hj, if_neg hj]
      by_cases e : j = k
      · subst e; simp [Nat.testBit_zero]
      · obtain ⟨d, hd⟩ : ∃ d, j - k = d + 1 := ⟨j - k - 1, by omega⟩
        have e2 : (j != k) = true := by simpa using e
        rw [hd, Nat.testBit_succ, Nat.testBit_succ, e2, show (2 * m + 1) / 2 = m by omega, show 2 * m / 2 = m by omega]
        simp
  · have := Nat.and_le_right (n := x) (m := x - 1)
    omega
theorem B64_low {p : Nat → Bool} (h0 : B64 p ≠ 0) : Lib.ctz 64 (B64 p) < 64 ∧ p (Lib.ctz 64 (B64 p)) = true ∧ B64 p &&& (B64 p - 1) = B64 (fun q => p q && q != Lib.ctz 64 (B64 p)) ∧ B64 (fun q => p q && q != Lib.ctz 64 (B64 p)) < B64 p := by
  obtain ⟨h1, h2, h3, h4⟩ := low_bit h0 (B64_lt p)
  have e : B64 p &&& (B64 p - 1) = B64 (fun q => p q && q != Lib.ctz 64 (B64 p)) := B64_eq fun k => by
    rw [h3, B64_test]
    by_cases hk : k < 64 <;> simp [hk]
  refine ⟨h1, ?_, e, by rw [← e]; exact h4⟩
  rw [B64_test] at h2
  simpa [h1] using h2
end Go.Proofs.YtfhggnbnbopkkaaDoor.PM

namespace Go.Proofs.YtfhggnbnbopkkaaDoor
open Go.RowKit PM

abbrev TNet : TypeId := 89
abbrev TPt : TypeId := 91
abbrev TRn : TypeId := 94

/-- what cell i of a net holds -/
def netC (n : NS) (p : Part) (A : Nat → Bool) (o : Bool) (i : Nat) : Value :=
  if i < 256 then .int .u64 (B64 fun q => n.has i q) else if i < 320 then .int .u64 (B64 fun q => n.fol (i - 256) q)
  else if i = 320 then .int .u64 (B64 p.first) else if i = 321 then .int .u64 (B64 p.last) else if i = 322 then .bool p.empty
  else if i = 323 then .int .u64 (B64 A) else if i = 324 then .bool o else .int .i64 n.k

/-- a net: its places, its part, the places alive, whether it is open -/
def NB (w : World) (b : Nat) (n : NS) (p : Part) (A : Nat → Bool) (o : Bool) : Prop :=
  ∃ cs, w.heap[b]? = some (.cells cs TNet (0, 0)) ∧ cs.size = 326 ∧ ∀ i, i < 326 → cs[i]? = some (netC n p A o i)

theorem NB.lt {w : World} {b : Nat} {n : NS} {p : Part} {A : Nat → Bool} {o : Bool} (h : NB w b n p A o) : b < w.heap.size := let ⟨_, h1, _⟩ := h; lt_of_block h1
theorem NB.cell {w : World} {b : Nat} {n : NS} {p : Part} {A : Nat → Bool} {o : Bool} (h : NB w b n p A o) (i : Nat) (hi : i < 326) : w.cell? ⟨b, i, none⟩ = some (netC n p A o i) := by
  obtain ⟨cs, h1, _, h3⟩ := h
  rw [cell_of_row w b i cs _ _ h1]; exact h3 i hi
theorem NB.frozen {w : World} {b : Nat} {n : NS} {p : Part} {A : Nat → Bool} {o : Bool} (h : NB w b n p A o) (i : Nat) : w.frozen? ⟨b, i, none⟩ = false := by
  obtain ⟨cs, h1, _, _⟩ := h
  exact frozen_of_row w b i _ _ h1
theorem NB.on {w w' : World} {b : Nat} {n : NS} {p : Part} {A : Nat → Bool} {o : Bool} (h : NB w b n p A o) (hb : Below w.heap.size w w') : NB w' b n p A o := by
  have := h.lt
  obtain ⟨cs, h1, r⟩ := h
  exact ⟨cs, (hb.block b this).trans h1, r⟩
theorem NB.grown {w w' : World} {b : Nat} {n : NS} {p : Part} {A : Nat → Bool} {o : Bool} (h : NB w b n p A o) {r : Option Nat} (hg : w.grownBy w' r) (hr : r ≠ some b) : NB w' b n p A o := by
  have := h.lt
  obtain ⟨cs, h1, x⟩ := h
  exact ⟨cs, (hg.block b this (fun e => hr e.symm)).trans h1, x⟩
theorem NB.congr {w : World} {b : Nat} {n m : NS} {p : Part} {A : Nat → Bool} {o : Bool} (h : NB w b n p A o) (hk : n.k = m.k) (hh : ∀ c q, c < 256 → q < 64 → n.has c q = m.has c q) (hf : ∀ x y, x < 64 → y < 64 → n.fol x y = m.fol x y) : NB w b m p A o := by
  obtain ⟨cs, h1, h2, h3⟩ := h
  refine ⟨cs, h1, h2, fun i hi => ?_⟩
  rw [h3 i hi]
  unfold netC
  split
  · rename_i h; rw [B64_congr fun q hq => hh i q h hq]
  · split
    · rename_i h h'; rw [B64_congr fun q hq => hf (i - 256) q (by omega) hq]
    · rw [hk]
/-- one cell turned -/
theorem NB.set {w : World} {b : Nat} {n m : NS} {p q : Part} {A A' : Nat → Bool} {o o' : Bool} (h : NB w b n p A o) (i : Nat) (v : Value) (hi : netC m q A' o' i = v) (hj : ∀ j, j < 326 → j ≠ i → netC m q A' o' j = netC n p A o j) : NB (w.setCell ⟨b, i, none⟩ v) b m q A' o' := by
  obtain ⟨cs, h1, h2, h3⟩ := h
  refine ⟨cs.setIfInBounds i v, heap_setCell_same w b i _ _ v h1, by simpa using h2, fun j hj2 => ?_⟩
  rw [Array.getElem?_setIfInBounds]
  by_cases e : i = j
  · subst e
    rw [if_pos rfl, if_pos (by omega), hi]
  · rw [if_neg e, h3 j hj2, hj j hj2 (fun e2 => e e2.symm)]

theorem netC_has {n : NS} {p : Part} {A : Nat → Bool} {o : Bool} {i : Nat} (h : i < 256) : netC n p A o i = .int .u64 (B64 fun q => n.has i q) := by rw [netC, if_pos h]
theorem netC_fol {n : NS} {p : Part} {A : Nat → Bool} {o : Bool} {i : Nat} (h : i < 64) : netC n p A o (256 + i) = .int .u64 (B64 fun q => n.fol i q) := by
  rw [netC, if_neg (by omega), if_pos (by omega), show 256 + i - 256 = i by omega]

section
variable {w : World} {b : Nat} {n : NS} {p : Part} {A : Nat → Bool} {o : Bool}
theorem NB.c_has (h : NB w b n p A o) {i : Nat} (hi : i < 256) : w.cell? ⟨b, i, none⟩ = some (.int .u64 (B64 fun q => n.has i q)) := by rw [h.cell i (by omega), netC_has hi]
theorem NB.c_fol (h : NB w b n p A o) {i : Nat} (hi : i < 64) : w.cell? ⟨b, 256 + i, none⟩ = some (.int .u64 (B64 fun q => n.fol i q)) := by rw [h.cell _ (by omega), netC_fol hi]
theorem NB.c_first (h : NB w b n p A o) : w.cell? ⟨b, 320, none⟩ = some (.int .u64 (B64 p.first)) := h.cell 320 (by omega)
theorem NB.c_last (h : NB w b n p A o) : w.cell? ⟨b, 321, none⟩ = some (.int .u64 (B64 p.last)) := h.cell 321 (by omega)
theorem NB.c_empty (h : NB w b n p A o) : w.cell? ⟨b, 322, none⟩ = some (.bool p.empty) := h.cell 322 (by omega)
theorem NB.c_alive (h : NB w b n p A o) : w.cell? ⟨b, 323, none⟩ = some (.int .u64 (B64 A)) := h.cell 323 (by omega)
theorem NB.c_open (h : NB w b n p A o) : w.cell? ⟨b, 324, none⟩ = some (.bool o) := h.cell 324 (by omega)
theorem NB.c_k (h : NB w b n p A o) : w.cell? ⟨b, 325, none⟩ = some (.int .i64 n.k) := h.cell 325 (by omega)
theorem NB.set_fol (h : NB w b n p A o) {i : Nat} (hi : i < 64) (f : Nat → Bool) : NB (w.setCell ⟨b, 256 + i, none⟩ (.int .u64 (B64 f))) b { n with fol := fun x q => if x = i then f q else n.fol x q } p A o := by
  refine h.set _ _ ?_ fun j hj hne => ?_
  · rw [netC_fol hi]; simp
  · unfold netC
    split
    · rfl
    · split
      · have e : ¬ j - 256 = i := by omega
        simp only [if_neg e]
      · rfl
theorem NB.set_has (h : NB w b n p A o) {i : Nat} (hi : i < 256) (f : Nat → Bool) : NB (w.setCell ⟨b, i, none⟩ (.int .u64 (B64 f))) b { n with has := fun x q => if x = i then f q else n.has x q } p A o := by
  refine h.set _ _ ?_ fun j hj hne => ?_
  · rw [netC_has hi]; simp
  · unfold netC
    split
    · simp only [if_neg hne]
    · rfl
theorem NB.set_k (h : NB w b n p A o) (k : Nat) : NB (w.setCell ⟨b, 325, none⟩ (.int .i64 k)) b { n with k := k } p A o := by
  refine h.set _ _ rfl fun j hj hne => ?_
  unfold netC
  split; rfl
  split; rfl
  split; rfl
  split; rfl
  split; rfl
  split; rfl
  split; rfl
  omega
theorem NB.set_first (h : NB w b n p A o) (f : Nat → Bool) : NB (w.setCell ⟨b, 320, none⟩ (.int .u64 (B64 f))) b n { p with first := f } A o := by
  refine h.set _ _ rfl fun j hj hne => ?_
  unfold netC
  split; rfl
  split; rfl
  simp only
theorem NB.set_last (h : NB w b n p A o) (f : Nat → Bool) : NB (w.setCell ⟨b, 321, none⟩ (.int .u64 (B64 f))) b n { p with last := f } A o := by
  refine h.set _ _ rfl fun j hj hne => ?_
  unfold netC
  split; rfl
  split; rfl
  split; rfl
  simp only
theorem NB.set_empty (h : NB w b n p A o) (e : Bool) : NB (w.setCell ⟨b, 322, none⟩ (.bool e)) b n { p with empty := e } A o := by
  refine h.set _ _ rfl fun j hj hne => ?_
  unfold netC
  split; rfl
  split; rfl
  split; rfl
  split; rfl
  simp only
theorem NB.set_alive (h : NB w b n p A o) (f : Nat → Bool) : NB (w.setCell ⟨b, 323, none⟩ (.int .u64 (B64 f))) b n p f o := by
  refine h.set _ _ rfl fun j hj hne => ?_
  unfold netC
  split; rfl
  split; rfl
  split; rfl
  split; rfl
  split; rfl
  simp only
theorem NB.set_open (h : NB w b n p A o) (e : Bool) : NB (w.setCell ⟨b, 324, none⟩ (.bool e)) b n p A e := by
  refine h.set _ _ rfl fun j hj hne => ?_
  unfold netC
  split; rfl
  split; rfl
  split; rfl
  split; rfl
  split; rfl
  split; rfl
  simp only
end
theorem setB (w : World) (g i : Nat) (v : Value) : w.grownBy (w.setCell ⟨g, i, none⟩ v) (some g) := ⟨rfl, rfl, rfl, by simp, fun k _ hk => Below.heap_setCell _ _ _ _ (fun e => hk (by rw [e]))⟩

/-- the library's table lies where it lay -/
def Tab (w : World) : Prop := TabAt 0 Lib.deBruijn64tab w
theorem Tab.cell {w : World} (h : Tab w) {j : Nat} (hj : j < 64) : w.cell? ⟨0, j, none⟩ = some (.int .u8 (Lib.deBruijn64tab.getD j 0)) := h j hj
theorem Tab.lt {w : World} (h : Tab w) : 0 < w.heap.size := World.block_lt_of_cell? w _ (h.cell (j := 0) (by omega))
theorem Tab.grown {w w' : World} (h : Tab w) {r : Option Nat} (hg : w.grownBy w' r) (hr : r ≠ some 0) : Tab w' := fun j hj => (World.cell?_of_block (a := ⟨0, j, none⟩) (hg.block 0 h.lt (fun e => hr e.symm))).trans (h j hj)
theorem Tab.on {w w' : World} (h : Tab w) (hb : Below w.heap.size w w') : Tab w' := h.grown (grown_below hb none) (fun e => by cases e)

set_option maxRecDepth 100000 in
theorem tz_core (x k idx : Nat) (w : World) (hx0 : ((x : Int) == 0) = false)
    (key : IntKind.u64.wrap (bits BinOp.and IntKind.u64 (x : Int) (IntKind.u64.wrap (-(x : Int))) * 285870213051353865) / 288230376151711744 = (idx : Int))
    (hi : idx < 64) (hk : k < 64) (hcell : w.cell? ⟨0, idx, none⟩ = some (.int .u8 k)) :
    Calls Tryd.prog 58 #[.int .u64 x] w fun e w' => e = .returned (.int .i64 k) ∧ w' = w := by
  go_enter Tryd.func58, Tryd.ntmps58
  go_wp2_with (simp only [key])
  go_ret
  exact ⟨rfl, rfl⟩

/-- the lowest bit of a set that is not empty -/
theorem tz_any (x : Nat) (hx : x < 18446744073709551616) (h0 : x ≠ 0) (w : World) (hT : Tab w) :
    Calls Tryd.prog 58 #[.int .u64 x] w fun e w' => e = .returned (.int .i64 (Lib.ctz 64 x)) ∧ w' = w := by
  obtain ⟨hlow, hk⟩ := Lib.lowest_bit 64 x h0 hx
  obtain ⟨hi, htab⟩ := Lib.deBruijn64_at _ hk
  have hcell := hT _ hi
  rw [htab] at hcell
  exact tz_core x _ _ w (by simp; omega) (tz64_key x _ hx h0 hlow) hi hk hcell
end Go.Proofs.YtfhggnbnbopkkaaDoor
