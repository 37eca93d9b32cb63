/- Small pieces of trees: a byte's node, any byte's node, parts under one node. -/
import Derived.Test.YtfhggnbnbopkkaaDoorPatNode
namespace Go.Proofs.YtfhggnbnbopkkaaDoor
open Go.RowKit PM

theorem u64wrap_pow (k : Nat) (h : k < 64) : IntKind.u64.wrap ((2 : Int) ^ k) = ((2 ^ k : Nat) : Int) := by
  have h1 : (2 : Nat) ^ k < 2 ^ 64 := Nat.pow_lt_pow_right (by omega) h
  have h2 : ((2 : Int) ^ k) = ((2 ^ k : Nat) : Int) := by simp
  rw [h2]
  generalize (2 : Nat) ^ k = n at h1
  simp [IntKind.wrap, IntKind.bits, IntKind.signed]
  omega

theorem word_one (c i : Nat) : word (fun k => k == c) i = if c / 64 = i then 2 ^ (c % 64) else 0 := by
  symm
  apply word_eq
  intro k
  by_cases h : c / 64 = i
  · rw [if_pos h, Nat.testBit_two_pow]
    by_cases hk : k < 64
    · have : (c % 64 = k) ↔ (64 * i + k = c) := by omega
      rw [show (64 * i + k == c) = decide (64 * i + k = c) from rfl]
      simp [hk, this]
    · have : ¬ c % 64 = k := by omega
      simp [hk, this]
  · rw [if_neg h, Nat.zero_testBit]
    by_cases hk : k < 64
    · have : ¬ (64 * i + k = c) := by omega
      simp [hk, this]
    · simp [hk]
theorem word_none (i : Nat) : word noSet i = 0 := by
  symm; apply word_eq; intro k; simp [noSet]
theorem word_all (i : Nat) : word (fun _ => true) i = 18446744073709551615 := by
  symm; apply word_eq; intro k
  rw [show (18446744073709551615 : Nat) = 2 ^ 64 - 1 by decide, Nat.testBit_two_pow_sub_one]; simp

theorem oneV (c : Nat) (i : Nat) (h : c / 64 = i) (hi : i < 4) : nodeV (one c) (.slice none 0 0) = .agg #[.int .i64 2, .int .u64 (if i = 0 then IntKind.u64.wrap (2 ^ (c % 64)) else 0), .int .u64 (if i = 1 then IntKind.u64.wrap (2 ^ (c % 64)) else 0), .int .u64 (if i = 2 then IntKind.u64.wrap (2 ^ (c % 64)) else 0), .int .u64 (if i = 3 then IntKind.u64.wrap (2 ^ (c % 64)) else 0), .slice none 0 0] := by
  subst h
  have hw := u64wrap_pow (c % 64) (by omega)
  rw [hw]
  simp only [nodeV, nodeC, one, T.op, T.set, word_one]
  have : c / 64 = 0 ∨ c / 64 = 1 ∨ c / 64 = 2 ∨ c / 64 = 3 := by omega
  rcases this with h | h | h | h <;> simp [h]

set_option maxRecDepth 100000 in
theorem one_any (c : Nat) (hc : c < 256) (w : World) :
    Calls Tryd.prog 55 #[.int .u8 c] w fun e w' => e = .returned (nodeV (one c) (.slice none 0 0)) ∧ Below w.heap.size w w' := by
  have hc' : (c : Int) < 256 := by omega
  have h2 : (0 : Int) ≤ (c : Int) % 64 := by omega
  have h3 : (c : Int) % 64 < 64 := by omega
  have h : c / 64 = 0 ∨ c / 64 = 1 ∨ c / 64 = 2 ∨ c / 64 = 3 := by omega
  have hb : ∀ x y, Below w.heap.size w ((w.alloc (.cells x TN)).alloc (.cells y TB)) := fun x y => ((Below.refl _ _).alloc (Nat.le_refl _) _).alloc (by simp) _
  rcases h with h | h | h | h
  · rw [oneV c 0 h (by decide)]
    have HB := Lib.hid hb; clear hb
    have h' : (c : Int) / 64 = 0 := by omega
    clear h
    go_enter Tryd.func55, Tryd.ntmps55
    go_wp2_with fail
    exact bodyPost_ret (v := .agg #[.int .i64 2, .int .u64 (IntKind.u64.wrap (2 ^ (c % 64))), .int .u64 0, .int .u64 0, .int .u64 0, .slice none 0 0]) (by simp [results, Tryd.results55, go_sem]) rfl ⟨by simp, HB.out _ _⟩
  · rw [oneV c 1 h (by decide)]
    have HB := Lib.hid hb; clear hb
    have h' : (c : Int) / 64 = 1 := by omega
    clear h
    go_enter Tryd.func55, Tryd.ntmps55
    go_wp2_with fail
    exact bodyPost_ret (v := .agg #[.int .i64 2, .int .u64 0, .int .u64 (IntKind.u64.wrap (2 ^ (c % 64))), .int .u64 0, .int .u64 0, .slice none 0 0]) (by simp [results, Tryd.results55, go_sem]) rfl ⟨by simp, HB.out _ _⟩
  · rw [oneV c 2 h (by decide)]
    have HB := Lib.hid hb; clear hb
    have h' : (c : Int) / 64 = 2 := by omega
    clear h
    go_enter Tryd.func55, Tryd.ntmps55
    go_wp2_with fail
    exact bodyPost_ret (v := .agg #[.int .i64 2, .int .u64 0, .int .u64 0, .int .u64 (IntKind.u64.wrap (2 ^ (c % 64))), .int .u64 0, .slice none 0 0]) (by simp [results, Tryd.results55, go_sem]) rfl ⟨by simp, HB.out _ _⟩
  · rw [oneV c 3 h (by decide)]
    have HB := Lib.hid hb; clear hb
    have h' : (c : Int) / 64 = 3 := by omega
    clear h
    go_enter Tryd.func55, Tryd.ntmps55
    go_wp2_with fail
    exact bodyPost_ret (v := .agg #[.int .i64 2, .int .u64 0, .int .u64 0, .int .u64 0, .int .u64 (IntKind.u64.wrap (2 ^ (c % 64))), .slice none 0 0]) (by simp [results, Tryd.results55, go_sem]) rfl ⟨by simp, HB.out _ _⟩

theorem everyV : nodeV every (.slice none 0 0) = .agg #[.int .i64 2, .int .u64 18446744073709551615, .int .u64 18446744073709551615, .int .u64 18446744073709551615, .int .u64 18446744073709551615, .slice none 0 0] := by
  simp only [nodeV, nodeC, every, T.op, T.set, word_all]; rfl

set_option maxRecDepth 100000 in
theorem every_any (w : World) : Calls Tryd.prog 67 #[] w fun e w' => e = .returned (nodeV every (.slice none 0 0)) ∧ Below w.heap.size w w' := by
  rw [everyV]
  go_enter Tryd.func67, Tryd.ntmps67
  go_wp2_with fail
  exact bodyPost_ret (v := .agg #[.int .i64 2, .int .u64 18446744073709551615, .int .u64 18446744073709551615, .int .u64 18446744073709551615, .int .u64 18446744073709551615, .slice none 0 0]) (by simp [results, Tryd.results67, go_sem]) rfl ⟨rfl, (Below.refl _ _).alloc (Nat.le_refl _) _⟩

theorem nodeV_op (op : Nat) (kids : List T) (K : Value) : nodeV (.mk op noSet kids) K = .agg #[.int .i64 op, .int .u64 0, .int .u64 0, .int .u64 0, .int .u64 0, K] := by
  simp only [nodeV, nodeC, T.op, T.set, word_none]; rfl

/-- what a call that makes a tree tells -/
def NodeIs (w : World) (t : T) (e : Ending) (w' : World) : Prop := ∃ K, e = .returned (nodeV t K) ∧ IsT w' (fun b => w.heap.size ≤ b) K t ∧ Below w.heap.size w w'

set_option maxRecDepth 100000 in
theorem joined_any (op : Nat) (B : Nat) (v : Value) (ps : List (T × Value)) (w : World) (hk : Kids w B v ps) (hl : ps.length ≤ 1000000) :
    Calls Tryd.prog 56 #[.int .i64 op, v] w fun e w' => ∃ K, e = .returned (nodeV (joined op (ps.map (·.1))) K) ∧ IsT w' (fun b => B ≤ b) K (joined op (ps.map (·.1))) ∧ Below w.heap.size w w' := by
  match ps, hk, hl with
  | [], hk, hl =>
    have hb := below_new w (.cells #[.int .i64 1, .int .u64 0, .int .u64 0, .int .u64 0, .int .u64 0, .slice none 0 0] TN)
    simp only [List.map_nil, joined, nodeV_op]
    rcases hk.own.2 with ⟨rfl, _⟩ | ⟨g, cap, cur, rfl, _⟩
    all_goals
      have HB := Lib.hid hb; clear hb hk
      go_enter Tryd.func56, Tryd.ntmps56
      go_wp2_with fail
      exact bodyPost_ret (v := .agg #[.int .i64 1, .int .u64 0, .int .u64 0, .int .u64 0, .int .u64 0, .slice none 0 0]) (by simp [results, Tryd.results56, go_sem]) rfl ⟨_, rfl, IsT.nil _ _, HB.out⟩
  | [q], hk, hl =>
    obtain ⟨t, K⟩ := q
    obtain ⟨Ak, ck, hKs⟩ : ∃ Ak ck, K = .slice Ak t.kids.length ck := (hk.each (t, K) (by simp)).slice
    subst hKs
    obtain ⟨g, cap, rfl, hgB, hgl⟩ := hk.own.form (by simp)
    have hc := fun j u h => hk.own.cells (g := g) rfl j u h
    have hb := below_new w (.cells (nodeC t (.slice Ak t.kids.length ck)).toArray TN)
    have hT : IsT (w.alloc (.cells (nodeC t (.slice Ak t.kids.length ck)).toArray TN)) (fun b => B ≤ b) (.slice Ak t.kids.length ck) t := ((hk.each (t, (.slice Ak t.kids.length ck)) (by simp)).imp fun b h _ => h.1).on hb
    have HT := Lib.hid hT; have HB := Lib.hid hb
    simp only [rowC, List.flatMap_cons, List.flatMap_nil, List.append_nil] at hc
    have k0 := hc 0 _ rfl; have k1 := hc 1 _ rfl; have k2 := hc 2 _ rfl; have k3 := hc 3 _ rfl; have k4 := hc 4 _ rfl; have k5 := hc 5 _ rfl
    simp only [Addr.add, if_true, Nat.reduceEqDiff, if_false, Nat.zero_add, Nat.add_zero] at k0 k1 k2 k3 k4 k5
    simp only [nodeC, nodeV] at HT HB ⊢
    clear hc hb hT hk
    simp only [List.map_cons, List.map_nil, joined, List.length_singleton]
    generalize word t.set 0 = x0 at *
    generalize word t.set 1 = x1 at *
    generalize word t.set 2 = x2 at *
    generalize word t.set 3 = x3 at *
    generalize t.op = xo at *
    go_enter Tryd.func56, Tryd.ntmps56
    go_wp2_with fail
    exact bodyPost_ret (v := .agg #[.int .i64 xo, .int .u64 x0, .int .u64 x1, .int .u64 x2, .int .u64 x3, .slice Ak t.kids.length ck]) (by simp [results, Tryd.results56, go_sem]) rfl ⟨_, rfl, HT.out, HB.out⟩
  | q :: r :: l, hk, hl =>
    obtain ⟨g, cap, rfl, hgB, hgl⟩ := hk.own.form (by simp)
    have hb := below_new w (.cells #[.int .i64 op, .int .u64 0, .int .u64 0, .int .u64 0, .int .u64 0, .slice (some ⟨g, 0, none⟩) (q :: r :: l).length cap] TN)
    have hT := (hk.node op noSet).on hb
    simp only [List.map_cons, joined, nodeV_op] at hT ⊢
    have HT := Lib.hid hT; have HB := Lib.hid hb
    have hl2 : (2 : Int) ≤ ((q :: r :: l).length : Int) := by simp; omega
    have hl3 : ((q :: r :: l).length : Int) ≤ 1000000 := by omega
    clear hT hb hk hl
    generalize (q :: r :: l).length = n at *
    go_enter Tryd.func56, Tryd.ntmps56
    go_wp2_with fail
    exact bodyPost_ret (v := .agg #[.int .i64 op, .int .u64 0, .int .u64 0, .int .u64 0, .int .u64 0, .slice (some ⟨g, 0, none⟩) n cap]) (by simp [results, Tryd.results56, go_sem]) rfl ⟨_, rfl, HT.out, HB.out⟩

end Go.Proofs.YtfhggnbnbopkkaaDoor
