/- A class of bytes, read. -/
import Derived.Test.YtfhggnbnbopkkaaDoorPatRe
import Derived.Deep.LoopGhost
namespace Go.Proofs.YtfhggnbnbopkkaaDoor
open Go.RowKit PM

/-- '^x' of a uint64 -/
def notU (n : Int) : Int := bits .xor .u64 18446744073709551615 n
theorem unary_xor_u64 (n : Int) : Op.unary .xor (.int .u64 n) = (pure (.int .u64 (notU n)) : Sem Value) := rfl
attribute [local go_sem 10000] unary_xor_u64
theorem notU_nat (x : Nat) (hx : x < 18446744073709551616) : notU x = ((18446744073709551615 ^^^ x : Nat) : Int) := u64_xor_nat 18446744073709551615 x (by omega) hx

/-- a set under way -/
def SetB (w : World) (b : Nat) (p : Nat → Bool) : Prop := w.heap[b]? = some (.cells #[.int .u64 (word p 0), .int .u64 (word p 1), .int .u64 (word p 2), .int .u64 (word p 3)] TB (0, 0))
theorem SetB.lt {w : World} {b : Nat} {p : Nat → Bool} (h : SetB w b p) : b < w.heap.size := lt_of_block h
theorem SetB.cell {w : World} {b : Nat} {p : Nat → Bool} (h : SetB w b p) {i : Nat} (hi : i < 4) : w.cell? ⟨b, i, none⟩ = some (.int .u64 (word p i)) := by
  rw [cell_of_row w b i _ _ _ h]
  have : i = 0 ∨ i = 1 ∨ i = 2 ∨ i = 3 := by omega
  rcases this with rfl | rfl | rfl | rfl <;> rfl
theorem SetB.fz {w : World} {b : Nat} {p : Nat → Bool} (h : SetB w b p) (i : Nat) : w.frozen? ⟨b, i, none⟩ = false := frozen_of_row w b i _ _ h
theorem SetB.put {w : World} {b : Nat} {p q : Nat → Bool} (h : SetB w b p) {i : Nat} (hi : i < 4) (n : Int) (hn : n = word q i) (ho : ∀ j, j ≠ i → word p j = word q j) : SetB (w.setCell ⟨b, i, none⟩ (.int .u64 n)) b q := by
  have := heap_setCell_same w b i _ _ (.int .u64 n) h
  unfold SetB; rw [this]
  have hi' : i = 0 ∨ i = 1 ∨ i = 2 ∨ i = 3 := by omega
  rcases hi' with rfl | rfl | rfl | rfl
  · simp [hn, ho 1 (by decide), ho 2 (by decide), ho 3 (by decide)]
  · simp [hn, ho 0 (by decide), ho 2 (by decide), ho 3 (by decide)]
  · simp [hn, ho 0 (by decide), ho 1 (by decide), ho 3 (by decide)]
  · simp [hn, ho 0 (by decide), ho 1 (by decide), ho 2 (by decide)]
theorem SetB.eqv {w : World} {b : Nat} {p q : Nat → Bool} (h : SetB w b p) (e : ∀ k, k < 256 → p k = q k) : SetB w b q := by
  unfold SetB at h ⊢
  rw [← word_congr (p := p) (q := q) (i := 0) fun k hk => e _ (by omega), ← word_congr (p := p) (q := q) (i := 1) fun k hk => e _ (by omega), ← word_congr (p := p) (q := q) (i := 2) fun k hk => e _ (by omega), ← word_congr (p := p) (q := q) (i := 3) fun k hk => e _ (by omega)]
  exact h
theorem SetB.grown {w w' : World} {b : Nat} {p : Nat → Bool} {r : Option Nat} (h : SetB w b p) (hg : w.grownBy w' r) (hne : some b ≠ r) : SetB w' b p := (hg.block b h.lt hne).trans h
theorem SetB.on {w w' : World} {b : Nat} {p : Nat → Bool} (h : SetB w b p) (hb : Below w.heap.size w w') : SetB w' b p := (hb.block b h.lt).trans h
theorem RG.moved {w w' : World} {g : Nat} {s : ByteArray} {a : Nat} {r : Option Nat} (h : RG w g s a) (hg : w.grownBy w' r) (hne : some g ≠ r) : RG w' g s a := (hg.block g h.lt hne).trans h

def addK (p : Nat → Bool) (k : Nat) : Nat → Bool := fun x => p x || x == k
theorem word_addK (p : Nat → Bool) (k i : Nat) (h : k / 64 = i) : word p i ||| 2 ^ (k % 64) = word (addK p k) i := by
  apply word_eq
  intro j
  rw [Nat.testBit_or, word_test, Nat.testBit_two_pow]
  by_cases hj : j < 64
  · have : (k % 64 = j) ↔ (64 * i + j = k) := by omega
    simp only [hj, decide_true, Bool.true_and, addK, this]
    rfl
  · have : ¬ k % 64 = j := by omega
    simp [hj, this]
theorem word_addK_ne (p : Nat → Bool) (k i : Nat) (h : k / 64 ≠ i) : word p i = word (addK p k) i := by
  apply word_congr
  intro j hj
  have : ¬ (64 * i + j = k) := by omega
  simp [addK, this]
theorem word_not (p : Nat → Bool) (i : Nat) : 18446744073709551615 ^^^ word p i = word (fun x => !p x) i := by
  apply word_eq
  intro j
  rw [Nat.testBit_xor, word_test, show (18446744073709551615 : Nat) = 2 ^ 64 - 1 by decide, Nat.testBit_two_pow_sub_one]
  by_cases hj : j < 64 <;> simp [hj]

/-- what a call that reads a tree tells -/
def ReadIs (g : Nat) (s : ByteArray) (w : World) (r : R T) (e : Ending) (w' : World) : Prop :=
  match r with
  | .ok t n => ∃ K, e = .returned (nodeV t K) ∧ IsT w' (fun b => w.heap.size ≤ b) K t ∧ RG w' g s n ∧ w.grownBy w' (some g)
  | .bad k => e = .panicked (wrongP k) ∧ w.grownBy w' (some g)

theorem or_word (p : Nat → Bool) (i k : Nat) (h : k / 64 = i) : bits .or .u64 (word p i : Int) (IntKind.u64.wrap ((2 : Int) ^ (k % 64))) = (word (addK p k) i : Int) := by
  rw [u64wrap_pow _ (by omega)]
  have h2 : (2 : Nat) ^ (k % 64) < 18446744073709551616 := Nat.lt_of_lt_of_le (Nat.pow_lt_pow_right (by omega) (show k % 64 < 64 by omega)) (Nat.le_refl (2 ^ 64))
  rw [u64_or_nat _ _ (word_lt p i) h2, word_addK p k i h]

/-- the bytes up to one -/
def upTo (p : Nat → Bool) (lo k : Nat) : Nat → Bool := fun x => p x || (decide (lo ≤ x) && decide (x < k))

/-- a class, its set read -/
def fin (r : R (Nat → Bool)) (b : Bool) : R T := match r with | .ok p n => .ok (.mk 2 (fun k => p k != b) []) n | .bad k => .bad k
theorem class_three (s : List UInt8) (a : Nat) :
    (s[a]? = none ∧ ∃ r, clsL (s.length + 1) s a true noSet = r ∧ cls s a = fin r false) ∨
    (∃ c, s[a]? = some c ∧ ((c.toNat : Int) == 94) = true ∧ ∃ r, clsL (s.length + 1) s (a + 1) true noSet = r ∧ cls s a = fin r true) ∨
    (∃ c, s[a]? = some c ∧ ((c.toNat : Int) == 94) = false ∧ ∃ r, clsL (s.length + 1) s a true noSet = r ∧ cls s a = fin r false) := by
  have hno : s[a]? ≠ some 94 → cls s a = fin (clsL (s.length + 1) s a true noSet) false := fun h => by
    unfold cls fin; rw [if_neg h]
    cases clsL (s.length + 1) s a true noSet with
    | ok p n => simp
    | bad k => rfl
  cases h : s[a]? with
  | none => exact .inl ⟨rfl, _, rfl, hno (by rw [h]; simp)⟩
  | some c =>
    right
    by_cases h1 : c = 94
    · subst h1
      refine .inl ⟨94, rfl, rfl, _, rfl, ?_⟩
      unfold cls fin; rw [if_pos h]
      cases clsL (s.length + 1) s (a + 1) true noSet with
      | ok p n => simp
      | bad k => rfl
    · refine .inr ⟨c, rfl, ?_, _, rfl, hno (by rw [h]; simpa using h1)⟩
      rw [beq_eq_false_iff_ne]
      intro e
      exact h1 (u8_eq (by have : c.toNat = 94 := by omega
                          rw [this]; rfl))

theorem readIs_bad {g : Nat} {s : ByteArray} {w w' : World} {k : Nat} {e : Ending} (h : e = .panicked (wrongP k)) (h2 : w.grownBy w' (some g)) : ReadIs g s w (.bad k) e w' := ⟨h, h2⟩
theorem readIs_ok {g : Nat} {s : ByteArray} {w w' : World} {t : T} {n : Nat} {K : Value} {e : Ending} (h : e = .returned (nodeV t K)) (h1 : IsT w' (fun b => w.heap.size ≤ b) K t) (h2 : RG w' g s n) (h3 : w.grownBy w' (some g)) : ReadIs g s w (.ok t n) e w' := ⟨K, h, h1, h2, h3⟩

/-- the byte at a place, held against one -/
theorem byte_three (s : List UInt8) (a : Nat) (x : UInt8) (n : Int) (hx : (x.toNat : Int) = n) :
    (s[a]? = none ∧ ¬ s[a]? = some x) ∨ (∃ c, s[a]? = some c ∧ ((c.toNat : Int) == n) = true ∧ s[a]? = some x) ∨ (∃ c, s[a]? = some c ∧ ((c.toNat : Int) == n) = false ∧ ¬ s[a]? = some x) := by
  subst hx
  cases h : s[a]? with
  | none => exact .inl ⟨rfl, by simp⟩
  | some c =>
    right
    by_cases h1 : c = x
    · subst h1; exact .inl ⟨c, rfl, by simp, rfl⟩
    · refine .inr ⟨c, rfl, ?_, by simpa using h1⟩
      rw [beq_eq_false_iff_ne]; intro e; exact h1 (u8_eq (by omega))

/-- what a class holds while it is read -/
structure CS (w : World) (g : Nat) (s : ByteArray) (wr : World) (a : Nat) (p : Nat → Bool) : Prop where
  rg : RG wr g s a
  set : SetB wr (w.heap.size + 1) p
  res : wr.heap[w.heap.size]? = some (.cells #[.int .i64 0, .int .u64 0, .int .u64 0, .int .u64 0, .int .u64 0, .slice none 0 0] TN (0, 0))
  up : w.grownBy wr (some g)
theorem CS.on {w : World} {g : Nat} {s : ByteArray} {wr w' : World} {a : Nat} {p : Nat → Bool} (h : CS w g s wr a p) (hb : Below wr.heap.size wr w') : CS w g s w' a p :=
  ⟨h.rg.on hb, h.set.on hb, (hb.block _ (lt_of_block h.res)).trans h.res, grown_trans h.up (grown_below hb _)⟩
theorem CS.go {w : World} {g : Nat} {s : ByteArray} {wr w' : World} {a b : Nat} {p : Nat → Bool} (h : CS w g s wr a p) (hg : g < w.heap.size) (hr : RG w' g s b) (hb : wr.grownBy w' (some g)) : CS w g s w' b p :=
  ⟨hr, h.set.grown hb (by simp; omega), (hb.block _ (lt_of_block h.res) (by simp; omega)).trans h.res, grown_trans h.up hb⟩
theorem CS.step {w : World} {g : Nat} {s : ByteArray} {wr : World} {a : Nat} {p : Nat → Bool} (h : CS w g s wr a p) (hg : g < w.heap.size) (b : Nat) : CS w g s (wr.setCell ⟨g, 1, none⟩ (.int .i64 b)) b p :=
  h.go hg (h.rg.set b) (RG.setB _ _ _)
theorem grown_set {w : World} {b : Nat} {i : Nat} {v : Value} : w.grownBy (w.setCell ⟨b, i, none⟩ v) (some b) := ⟨rfl, rfl, rfl, by simp, fun k _ hk => Below.heap_setCell _ _ _ _ (fun e => hk (by rw [e]))⟩
theorem CS.put {w : World} {g : Nat} {s : ByteArray} {wr : World} {a : Nat} {p q : Nat → Bool} (h : CS w g s wr a p) (hg : g < w.heap.size) {i : Nat} (hi : i < 4) (n : Int) (hn : n = word q i) (ho : ∀ j, j ≠ i → word p j = word q j) :
    CS w g s (wr.setCell ⟨w.heap.size + 1, i, none⟩ (.int .u64 n)) a q :=
  ⟨h.rg.moved (grown_set (b := w.heap.size + 1)) (by simp; omega), h.set.put hi n hn ho, ((grown_set (b := w.heap.size + 1)).block _ (lt_of_block h.res) (by simp)).trans h.res,
    ⟨h.up.os, h.up.tape, h.up.output, by have := h.up.size; simp; omega, fun k hk hne => ((grown_set (b := w.heap.size + 1)).block k (by have := h.up.size; omega) (by simp; omega)).trans (h.up.block k hk hne)⟩⟩
theorem CS.drew {w : World} {g : Nat} {s : ByteArray} {wr : World} {a : Nat} {p : Nat → Bool} (h : CS w g s wr a p) : CS w g s wr.drew a p := h.on ((Below.refl _ _).drew)
theorem CS.eqv {w : World} {g : Nat} {s : ByteArray} {wr : World} {a : Nat} {p q : Nat → Bool} (h : CS w g s wr a p) (e : ∀ k, k < 256 → p k = q k) : CS w g s wr a q := ⟨h.rg, h.set.eqv e, h.res, h.up⟩

theorem upTo_zero (p : Nat → Bool) (lo : Nat) : upTo p lo lo = p := by
  funext z; simp only [upTo]
  by_cases h : lo ≤ z
  · have : ¬ z < lo := by omega
    simp [this]
  · simp [h]
theorem upTo_succ (p : Nat → Bool) (lo x : Nat) (h : lo ≤ x) : addK (upTo p lo x) x = upTo p lo (x + 1) := by
  funext z
  simp only [addK, upTo]
  by_cases h1 : z = x
  · subst h1; simp [h]
  · by_cases h2 : z < x
    · have : z < x + 1 := by omega
      simp [h1, h2, this]
    · have : ¬ z < x + 1 := by omega
      simp [h1, h2, this]
theorem upTo_end (p : Nat → Bool) (lo hi : Nat) : upTo p lo (hi + 1) = span p lo hi := by
  funext z
  simp only [upTo, span]
  congr 2
  rw [decide_eq_decide]; omega

/-- the words up to one, turned or not -/
def flipTo (o : Bool) (p : Nat → Bool) (j : Nat) : Nat → Bool := fun x => if x < 64 * j then p x != o else p x
theorem flip_zero (o : Bool) (p : Nat → Bool) : flipTo o p 0 = p := by funext x; simp [flipTo]
theorem flip_false (p : Nat → Bool) (j : Nat) : flipTo false p j = p := by funext x; simp [flipTo]
theorem flip_word (p : Nat → Bool) (j : Nat) : notU (word (flipTo true p j) j : Int) = (word (flipTo true p (j + 1)) j : Int) := by
  rw [notU_nat _ (word_lt _ _), word_not]
  refine congrArg (fun n : Nat => (n : Int)) (word_congr fun k hk => ?_)
  have h1 : ¬ 64 * j + k < 64 * j := by omega
  have h2 : 64 * j + k < 64 * (j + 1) := by omega
  simp [flipTo, h1, h2]
theorem flip_other (p : Nat → Bool) (j i : Nat) (h : i ≠ j) : word (flipTo true p j) i = word (flipTo true p (j + 1)) i := by
  apply word_congr
  intro k hk
  simp only [flipTo]
  by_cases h1 : 64 * i + k < 64 * j
  · have : 64 * i + k < 64 * (j + 1) := by omega
    simp [h1, this]
  · have : ¬ 64 * i + k < 64 * (j + 1) := by omega
    simp [h1, this]
theorem flip_four (o : Bool) (p : Nat → Bool) (k : Nat) (h : k < 256) : flipTo o p 4 k = (p k != o) := by simp [flipTo, h]

theorem grown_row (w : World) (b : Nat) (cs : Array Value) : w.grownBy (w.setRow b cs) (some b) := ⟨rfl, rfl, rfl, by simp, fun k _ hne => setRow_other _ _ _ _ (fun e => hne (by rw [e]))⟩

/-- the node of a set that was read -/
theorem CS.done {w : World} {g : Nat} {s : ByteArray} {wr : World} {a : Nat} {p : Nat → Bool} (h : CS w g s wr a p) (hg : g < w.heap.size) :
    ReadIs g s w (.ok (.mk 2 p []) a) (.returned (nodeV (.mk 2 p []) (.slice none 0 0))) (wr.setRow w.heap.size (nodeC (.mk 2 p []) (.slice none 0 0)).toArray) := by
  refine readIs_ok (t := .mk 2 p []) (K := .slice none 0 0) rfl ?_ ?_ ?_
  · exact IsT.nil 2 p
  · exact h.rg.moved (grown_row wr w.heap.size _) (by simp; omega)
  · exact ⟨h.up.os, h.up.tape, h.up.output, by have := h.up.size; simp; omega, fun k hk hne => ((grown_row wr w.heap.size _).block k (by have := h.up.size; omega) (by simp; omega)).trans (h.up.block k hk hne)⟩

theorem node_one (p : Nat → Bool) : (nodeC (.mk 2 p []) (.slice none 0 0)).toArray.all (·.oneCell') = true := by simp [nodeC, Value.oneCell']

/-- a mark of the way -/
def SetOf (_ : Bool) : Prop := True

set_option maxRecDepth 100000 in
set_option maxHeartbeats 16000000 in
theorem class_any (g : Nat) (s : ByteArray) (a : Nat) (w : World) (h : RG w g s a) (hs : s.size ≤ 100000) (ha : a ≤ s.size) :
    Calls Tryd.prog 73 #[.pointer (some ⟨g, 0, none⟩)] w (ReadIs g s w (cls s.data.toList a)) := by
  have hg := h.lt
  rcases class_three s.data.toList a with ⟨hc, r, hr, hE⟩ | ⟨c, hc, hj, r, hr, hE⟩ | ⟨c, hc, hj, r, hr, hE⟩
  case' inl => have hT : Hid (SetOf false) := Lib.hid trivial
  case' inr.inl => have hT : Hid (SetOf true) := Lib.hid trivial
  case' inr.inr => have hT : Hid (SetOf false) := Lib.hid trivial
  all_goals
    rw [hE]
    have HR := Lib.hid hr; have HCC := Lib.hid hc
    clear hE hr hc
    have hb0 := below_new w (.cells #[.int .i64 0, .int .u64 0, .int .u64 0, .int .u64 0, .int .u64 0, .slice none 0 0] TN)
    have hb1 := below_then hb0 (below_new (w.alloc (.cells #[.int .i64 0, .int .u64 0, .int .u64 0, .int .u64 0, .int .u64 0, .slice none 0 0] TN)) (.cells #[.int .u64 0, .int .u64 0, .int .u64 0, .int .u64 0] TB)) (Nat.le_refl _)
    have hS : SetB ((w.alloc (.cells #[.int .i64 0, .int .u64 0, .int .u64 0, .int .u64 0, .int .u64 0, .slice none 0 0] TN)).alloc (.cells #[.int .u64 0, .int .u64 0, .int .u64 0, .int .u64 0] TB)) (w.heap.size + 1) noSet := by
      have := heap_alloc_new (w.alloc (.cells #[.int .i64 0, .int .u64 0, .int .u64 0, .int .u64 0, .int .u64 0, .slice none 0 0] TN)) (.cells #[.int .u64 0, .int .u64 0, .int .u64 0, .int .u64 0] TB)
      rw [World.size_alloc] at this
      unfold SetB
      rw [word_none, word_none, word_none, word_none]; exact this
    have hZ : ((w.alloc (.cells #[.int .i64 0, .int .u64 0, .int .u64 0, .int .u64 0, .int .u64 0, .slice none 0 0] TN)).alloc (.cells #[.int .u64 0, .int .u64 0, .int .u64 0, .int .u64 0] TB)).heap[w.heap.size]? = some (.cells #[.int .i64 0, .int .u64 0, .int .u64 0, .int .u64 0, .int .u64 0, .slice none 0 0] TN (0, 0)) :=
      ((below_new (w.alloc (.cells #[.int .i64 0, .int .u64 0, .int .u64 0, .int .u64 0, .int .u64 0, .slice none 0 0] TN)) _).block _ (by simp)).trans (heap_alloc_new w _)
    have hC0 : CS w g s ((w.alloc (.cells #[.int .i64 0, .int .u64 0, .int .u64 0, .int .u64 0, .int .u64 0, .slice none 0 0] TN)).alloc (.cells #[.int .u64 0, .int .u64 0, .int .u64 0, .int .u64 0] TB)) a noSet :=
      ⟨h.on hb1, hS, hZ, grown_below hb1 _⟩
    have HC0 := Lib.hid hC0; have HG := Lib.hid hg
    try have hla := (byte_at s a c HCC.out).1
    try have HJ := Lib.hid hj
    try clear hj
    clear h hb0 hb1 hS hZ hC0 hg
    go_enter Tryd.func73, Tryd.ntmps73
    go_wp2_with fail
    change Calls _ _ _ ((w.alloc (.cells #[.int .i64 0, .int .u64 0, .int .u64 0, .int .u64 0, .int .u64 0, .slice none 0 0] TN)).alloc (.cells #[.int .u64 0, .int .u64 0, .int .u64 0, .int .u64 0] TB)) _
    generalize (w.alloc (.cells #[.int .i64 0, .int .u64 0, .int .u64 0, .int .u64 0, .int .u64 0, .slice none 0 0] TN)).alloc (.cells #[.int .u64 0, .int .u64 0, .int .u64 0, .int .u64 0] TB) = W0 at *
    refine (next_any g s a W0 HC0.out.rg (by omega)).mono ?_
    rintro e w1 ⟨rfl, hb⟩
    have HC1 := Lib.hid (HC0.out.on hb)
    clear hb HC0
    have c1 := HC1.out.rg.c1; have f1 := HC1.out.rg.f1
    have hal : (a : Int) ≤ 100000 := by omega
    simp only [nextV, HCC.out]
    try have hj := HJ.out
    go_wp2_with fail
    clear f1 c1
    try clear hj
    go_loopg [7] (s.size + 1) (fun k v7 wr => ∃ (b : Nat) (first : Bool) (p : Nat → Bool), v7 = .bool first ∧ b ≤ s.size ∧ s.size - b < k ∧ Hid (clsL k s.data.toList b first p = r) ∧ Hid (CS w g s wr b p))
    case atStart => first
      | exact ⟨a, true, noSet, rfl, ha, by omega, HR, HC1⟩
      | exact ⟨a + 1, true, noSet, rfl, hla, by omega, HR, Lib.hid (HC1.out.step HG.out (a + 1))⟩
  all_goals
    clear HC1 HR HCC
    try clear HJ
    try clear hla
    clear ha hal
    obtain ⟨b, first, p, rfl, hbs, hbk, HR, HC⟩ := hrel
    obtain ⟨k, rfl⟩ : ∃ k, gk = k + 1 := ⟨gk - 1, by omega⟩
    have hbi : (b : Int) ≤ 100000 := by omega
    have hr := HR.out
    simp only [clsL] at hr
    have HR1 := Lib.hid hr
    clear hr HR
    go_wp2_with fail
    refine (next_any g s b wr HC.out.rg (by omega)).mono ?_
    rintro e w2 ⟨rfl, hb⟩
    have HC2 := Lib.hid (HC.out.on hb)
    clear hb HC
    -- the closing bracket ends it
    by_cases hstop : s.data.toList[b]? = some 93 ∧ first = false
    · obtain ⟨hs1, rfl⟩ := hstop
      have hr := HR1.out
      rw [if_pos ⟨hs1, rfl⟩] at hr
      have HR2 := Lib.hid hr
      simp only [nextV, hs1]
      have hla := (byte_at s b 93 hs1).1
      have c1 := HC2.out.rg.c1; have f1 := HC2.out.rg.f1
      clear hr HR1 hs1
      have HCS : Hid (CS w g s (w2.setCell ⟨g, 1, none⟩ (.int .i64 ((b : Int) + 1))) (b + 1) p) := Lib.hid (HC2.out.step HG.out (b + 1))
      have hr := HR2.out
      clear HC2 HR2
      go_wp2_with fail
      clear c1 f1
      generalize w2.setCell ⟨g, 1, none⟩ (.int .i64 ((b : Int) + 1)) = w3 at *
      subst hr
      first
        | have _t : Hid (SetOf true) := by assumption
          go_loopw [99] (fun v wr => ∃ j : Nat, v = .int .i64 j ∧ j ≤ 4 ∧ Hid (CS w g s wr (b + 1) (flipTo true p j))) (fun v _ => 4 - (intOf v).toNat)
          case atStart => exact ⟨0, rfl, by omega, Lib.hid (by rw [flip_zero]; exact HCS.out)⟩
          case round =>
            clear HCS
            obtain ⟨j, rfl, hj4, HCJ⟩ := hrel
            by_cases hjl : j < 4
            · have e1 : (j : Int) < 4 := by omega
              have e0 : (0 : Int) ≤ j := by omega
              have cx := HCJ.out.set.cell hjl
              have fx := HCJ.out.set.fz j
              have hn := flip_word p j
              go_wp2_with fail
              go_roundw
              case rel => exact ⟨j + 1, by go_num, by omega, Lib.hid (HCJ.out.put HG.out hjl _ rfl (fun i hi => flip_other p j i hi))⟩
              case measure => simp [intOf]; omega
            · obtain rfl : j = 4 := by omega
              obtain ⟨q, hq⟩ : ∃ q : Nat → Bool, q = fun k => p k != true := ⟨_, rfl⟩
              have HQ := Lib.hid hq
              have HCF : Hid (CS w g s wr (b + 1) q) := Lib.hid (by rw [hq]; exact HCJ.out.eqv fun k hk => flip_four _ _ _ hk)
              have HDN := Lib.hid (HCF.out.done HG.out)
              clear HCJ hjl hj4 hq
              go_wp2_with (first | (refine wpList_load_row rfl TB (.tmp 3) rfl (w.heap.size + 1) rfl TB _ (0, 0) _ HCF.out.set Tryd.underlying63 rfl (by kernel_rfl) ?_) | (refine wpList_store_row rfl TN (.tmp 2) (.tmp 111) rfl w.heap.size (nodeC (.mk 2 q []) (.slice none 0 0)).toArray rfl rfl TN #[.int .i64 0, .int .u64 0, .int .u64 0, .int .u64 0, .int .u64 0, .slice none 0 0] HCF.out.res (by kernel_rfl) rfl (node_one _) ?_))
              exact bodyPost_ret (results_cell_row rfl _ _ w.heap.size TN (nodeC (.mk 2 q []) (.slice none 0 0)).toArray (0, 0) _ rfl (setRow_heap _ _ _ _ _ _ HCF.out.res) Tryd.underlying66 rfl (by kernel_rfl)) rfl (by rw [show fin (R.ok p (b + 1)) true = .ok (.mk 2 (fun k => p k != true) []) (b + 1) from rfl, ← HQ.out]; exact HDN.out)
        | have _t : Hid (SetOf false) := by assumption
          go_loopw [99] (fun v wr => ∃ j : Nat, v = .int .i64 j ∧ j ≤ 4 ∧ Hid (CS w g s wr (b + 1) (flipTo false p j))) (fun v _ => 4 - (intOf v).toNat)
          case atStart => exact ⟨0, rfl, by omega, Lib.hid (by rw [flip_zero]; exact HCS.out)⟩
          case round =>
            clear HCS
            obtain ⟨j, rfl, hj4, HCJ⟩ := hrel
            by_cases hjl : j < 4
            · have e1 : (j : Int) < 4 := by omega
              have e0 : (0 : Int) ≤ j := by omega
              have cx := HCJ.out.set.cell hjl
              have fx := HCJ.out.set.fz j
              go_wp2_with fail
              go_roundw
              case rel => exact ⟨j + 1, by go_num, by omega, Lib.hid (by rw [flip_false]; have := HCJ.out; rwa [flip_false] at this)⟩
              case measure => simp [intOf]; omega
            · obtain rfl : j = 4 := by omega
              obtain ⟨q, hq⟩ : ∃ q : Nat → Bool, q = fun k => p k != false := ⟨_, rfl⟩
              have HQ := Lib.hid hq
              have HCF : Hid (CS w g s wr (b + 1) q) := Lib.hid (by rw [hq]; exact HCJ.out.eqv fun k hk => flip_four _ _ _ hk)
              have HDN := Lib.hid (HCF.out.done HG.out)
              clear HCJ hjl hj4 hq
              go_wp2_with (first | (refine wpList_load_row rfl TB (.tmp 3) rfl (w.heap.size + 1) rfl TB _ (0, 0) _ HCF.out.set Tryd.underlying63 rfl (by kernel_rfl) ?_) | (refine wpList_store_row rfl TN (.tmp 2) (.tmp 111) rfl w.heap.size (nodeC (.mk 2 q []) (.slice none 0 0)).toArray rfl rfl TN #[.int .i64 0, .int .u64 0, .int .u64 0, .int .u64 0, .int .u64 0, .slice none 0 0] HCF.out.res (by kernel_rfl) rfl (node_one _) ?_))
              exact bodyPost_ret (results_cell_row rfl _ _ w.heap.size TN (nodeC (.mk 2 q []) (.slice none 0 0)).toArray (0, 0) _ rfl (setRow_heap _ _ _ _ _ _ HCF.out.res) Tryd.underlying66 rfl (by kernel_rfl)) rfl (by rw [show fin (R.ok p (b + 1)) false = .ok (.mk 2 (fun k => p k != false) []) (b + 1) from rfl, ← HQ.out]; exact HDN.out)
    have hr := HR1.out
    rw [if_neg hstop] at hr
    have HR2 := Lib.hid hr
    clear hr HR1
    rcases byte_three s.data.toList b 93 93 rfl with ⟨hn, _⟩ | ⟨c, hn, hj, hn2⟩ | ⟨c, hn, hj, _⟩
    case' inr.inl =>
      obtain rfl : first = true := by
        cases hf : first with
        | true => rfl
        | false => exact absurd ⟨hn2, hf⟩ hstop
    all_goals
      clear hstop
      try clear hn2
      simp only [nextV, hn]
      clear hn
      go_wp2_with fail
      try clear hj
      refine (member_any g s b w2 HC2.out.rg (by omega)).mono ?_
      rintro e w3 hm
      have hr := HR2.out
      rcases hmem : member s.data.toList b with ⟨lo, n⟩ | ⟨k'⟩
      case bad =>
        rw [hmem] at hm hr
        obtain ⟨rfl, hup⟩ := hm
        subst hr
        have HUP := Lib.hid (grown_trans HC2.out.up hup)
        clear hup HC2 HR2 hmem
        go_wp2_with fail
        exact ⟨rfl, readIs_bad rfl HUP.out⟩
      case ok =>
        rw [hmem] at hm hr
        have hlo := member_pos hmem
        obtain ⟨rfl, hrg, hup⟩ := hm
        have HC3 := Lib.hid (HC2.out.go HG.out hrg hup)
        have HR3 := Lib.hid hr
        clear hr hmem hrg hup HC2 HR2
        have hloi : (lo : Int) < 256 := by omega
        obtain ⟨hbn, hns, hl256⟩ := hlo
        have hnl : n ≤ s.size := hns
        clear hns
        go_wp2_with fail
        refine (next_any g s n w3 HC3.out.rg (by omega)).mono ?_
        rintro e w4 ⟨rfl, hb⟩
        have HC4 := Lib.hid (HC3.out.on hb)
        clear hb HC3
        rcases byte_three s.data.toList n 45 45 rfl with ⟨hn, hn2⟩ | ⟨c2, hn, hj, hn2⟩ | ⟨c2, hn, hj, hn2⟩
        all_goals
          have HN2 := Lib.hid hn2
          simp only [nextV, hn]
          have HN := Lib.hid hn
          clear hn hn2
        case inr.inl =>
          have c1 := HC4.out.rg.c1; have f1 := HC4.out.rg.f1
          have hni : (n : Int) ≤ 100000 := by omega
          have hnla := (byte_at s n c2 HN.out).1
          have hr := HR3.out
          rw [if_pos HN2.out] at hr
          have HR4 := Lib.hid hr
          have HC5 := Lib.hid (HC4.out.step HG.out (n + 1))
          clear hr HR3 HC4 HN HN2
          go_wp2_with fail
          clear c1 f1 hj
          refine (member_any g s (n + 1) _ HC5.out.rg (by omega)).mono ?_
          rintro e w6 hm
          have hr := HR4.out
          rcases hmem : member s.data.toList (n + 1) with ⟨hi, m⟩ | ⟨k'⟩
          case bad =>
            rw [hmem] at hm hr
            obtain ⟨rfl, hup⟩ := hm
            subst hr
            have HUP := Lib.hid (grown_trans HC5.out.up hup)
            clear hup HC5 HR4 hmem
            go_wp2_with fail
            exact ⟨rfl, readIs_bad rfl HUP.out⟩
          case ok =>
          rw [hmem] at hm hr
          have hhi := member_pos hmem
          obtain ⟨rfl, hrg, hup⟩ := hm
          have HC6 := Lib.hid (HC5.out.go HG.out hrg hup)
          have HR5 := Lib.hid hr
          clear hr hmem hrg hup HC5 HR4
          obtain ⟨hnm, hms, hh256⟩ := hhi
          have hml : m ≤ s.size := hms
          have hhii : (hi : Int) < 256 := by omega
          clear hms
          by_cases hlt : hi < lo
          · have hr := HR5.out
            simp only [] at hr
            rw [if_pos hlt] at hr
            subst hr
            have c1 := HC6.out.rg.c1
            have hlt2 : (hi : Int) < lo := by omega
            have hmi : (m : Int) ≤ 100000 := by omega
            have hm1 : (1 : Int) ≤ m := by omega
            have HUP := Lib.hid HC6.out.up
            clear HC6 HR5
            go_wp2_with fail
            exact ⟨rfl, readIs_bad (by simp [wrongP]; omega) HUP.out⟩
          have hr := HR5.out
          simp only [] at hr
          rw [if_neg hlt] at hr
          have HR6 := Lib.hid hr
          have hge : ¬ ((hi : Int) < lo) := by omega
          clear hr HR5
          go_wp2_with fail
          go_loopg [14] (hi + 1 - lo) (fun k2 v14 wr => ∃ x : Nat, v14 = .int .i64 x ∧ lo ≤ x ∧ x ≤ hi + 1 ∧ hi + 1 - x ≤ k2 ∧ Hid (CS w g s wr m (upTo p lo x)))
          case atStart => exact ⟨lo, rfl, Nat.le_refl _, by omega, by omega, Lib.hid (by rw [upTo_zero]; exact HC6.out)⟩
          case round =>
            clear HC6
            obtain ⟨x, rfl, hx1, hx2, hx3, HCX⟩ := hrel
            by_cases hxl : x ≤ hi
            · have hx256 : (x : Int) < 256 := by omega
              have e0 : (0 : Int) ≤ x := by omega
              have e1 : (0 : Int) ≤ (x : Int) / 64 := by omega
              have e2 : (x : Int) / 64 < 4 := by omega
              have e3 : (0 : Int) ≤ (x : Int) % 64 := by omega
              have e4 : (x : Int) % 64 < 64 := by omega
              have e5 : (x : Int) ≤ hi := by omega
              have cx := HCX.out.set.cell (i := x / 64) (by omega)
              have fx := HCX.out.set.fz (x / 64)
              have ho := or_word (upTo p lo x) (x / 64) x rfl
              go_wp2_with fail
              go_region
              all_goals
                go_wp2_with fail
                go_roundg (gk - 1)
                case measure => omega
                case rel => exact ⟨x + 1, by go_num, by omega, by omega, by omega, Lib.hid (by rw [← upTo_succ p lo x hx1]; exact (HCX.out.put HG.out (i := x / 64) (by omega) _ rfl (fun j hj => word_addK_ne _ _ _ (Ne.symm hj))).drew)⟩
            · obtain rfl : x = hi + 1 := by omega
              have hex : ¬ ((hi : Int) + 1 ≤ hi) := by omega
              have HCY := Lib.hid HCX.out
              clear HCX hxl
              go_wp2_with fail
              go_roundg k
              case measure => omega
              case rel => exact ⟨m, false, span p lo hi, rfl, by omega, by omega, HR6, Lib.hid (by rw [← upTo_end]; exact HCY.out)⟩
        all_goals
          have hr := HR3.out
          rw [if_neg HN2.out] at hr
          have HR4 := Lib.hid hr
          clear hr HR3 HN HN2
          try have hj' := hj
          go_wp2_with fail
          go_loopg [14] (lo + 1 - lo) (fun k2 v14 wr => ∃ x : Nat, v14 = .int .i64 x ∧ lo ≤ x ∧ x ≤ lo + 1 ∧ lo + 1 - x ≤ k2 ∧ Hid (CS w g s wr n (upTo p lo x)))
          case atStart => exact ⟨lo, rfl, Nat.le_refl _, by omega, by omega, Lib.hid (by rw [upTo_zero]; exact HC4.out)⟩
          case round =>
            clear HC4
            obtain ⟨x, rfl, hx1, hx2, hx3, HCX⟩ := hrel
            by_cases hxl : x ≤ lo
            · have hx256 : (x : Int) < 256 := by omega
              have e0 : (0 : Int) ≤ x := by omega
              have e1 : (0 : Int) ≤ (x : Int) / 64 := by omega
              have e2 : (x : Int) / 64 < 4 := by omega
              have e3 : (0 : Int) ≤ (x : Int) % 64 := by omega
              have e4 : (x : Int) % 64 < 64 := by omega
              have e5 : (x : Int) ≤ lo := by omega
              have cx := HCX.out.set.cell (i := x / 64) (by omega)
              have fx := HCX.out.set.fz (x / 64)
              have ho := or_word (upTo p lo x) (x / 64) x rfl
              go_wp2_with fail
              go_region
              all_goals
                go_wp2_with fail
                go_roundg (gk - 1)
                case measure => omega
                case rel => exact ⟨x + 1, by go_num, by omega, by omega, by omega, Lib.hid (by rw [← upTo_succ p lo x hx1]; exact (HCX.out.put HG.out (i := x / 64) (by omega) _ rfl (fun j hj => word_addK_ne _ _ _ (Ne.symm hj))).drew)⟩
            · obtain rfl : x = lo + 1 := by omega
              have hex : ¬ ((lo : Int) + 1 ≤ lo) := by omega
              have HCY := Lib.hid HCX.out
              clear HCX hxl
              go_wp2_with fail
              go_roundg k
              case measure => omega
              case rel => exact ⟨n, false, span p lo lo, rfl, by omega, by omega, HR4, Lib.hid (by rw [← upTo_end]; exact HCY.out)⟩
end Go.Proofs.YtfhggnbnbopkkaaDoor
