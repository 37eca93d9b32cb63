/- The document's side: In, Same. -/
import Derived.Test.YtlddeagolhdieaaHubWorks
import Derived.ChangeKeysEq
import Derived.Deep.LoopGhost
import Derived.Deep.RegionHeld3
namespace Go.Proofs.Ytlddeagolhdieaa
open Go.RowKit Go.MuLone Go.Conc

set_option maxRecDepth 100000
set_option maxHeartbeats 4000000
theorem in_yes (t : Int) (w : World) (h0 : 0 ≤ t) (h1 : t < 8) : Calls Try.prog 21 #[.int .i64 t] w fun e w' => e = .returned (.bool true) ∧ w' = w := by
  have d0 : decide (0 ≤ t) = true := decide_eq_true h0
  have d1 : decide (t < 8) = true := decide_eq_true h1
  go_enter Try.func21, Try.ntmps21
  go_wp2_with fail
  go_ret
  exact ⟨rfl, rfl⟩
theorem in_no (t : Int) (w : World) (h0 : t < 0 ∨ 8 ≤ t) : Calls Try.prog 21 #[.int .i64 t] w fun e w' => e = .returned (.bool false) ∧ w' = w := by
  rcases h0 with h0 | h0
  · have d0 : decide (0 ≤ t) = false := decide_eq_false (by omega)
    go_enter Try.func21, Try.ntmps21
    go_wp2_with fail
    go_ret
    exact ⟨rfl, rfl⟩
  · have d0 : decide (0 ≤ t) = true := decide_eq_true (by omega)
    have d1 : decide (t < 8) = false := decide_eq_false (by omega)
    go_enter Try.func21, Try.ntmps21
    go_wp2_with fail
    go_ret
    exact ⟨rfl, rfl⟩

/-- happenings that lie somewhere -/
def Lies (w : World) (A : Option Addr) (l : List Hap) : Prop := l ≠ [] → ∃ g o, A = some ⟨g, o, none⟩ ∧ g < w.heap.size ∧ ∀ k u, (hapsC l)[k]? = some u → w.cell? ⟨g, o + k, none⟩ = some u
theorem Lies.on {w w' : World} {A : Option Addr} {l : List Hap} (h : Lies w A l) (hb : Below w.heap.size w w') : Lies w' A l := fun hne => by
  obtain ⟨g, o, e, hg, hc⟩ := h hne
  exact ⟨g, o, e, Nat.lt_of_lt_of_le hg hb.size, fun k u hu => (hb.cell hg).trans (hc k u hu)⟩
theorem hapsC_at : ∀ (l : List Hap) (i : Nat) (x : Hap), l[i]? = some x → ∀ k u, (hapC x)[k]? = some u → (hapsC l)[i * 3 + k]? = some u
  | [], i, x, h, k, u, hu => by simp at h
  | y :: r, 0, x, h, k, u, hu => by
    simp only [List.getElem?_cons_zero, Option.some.injEq] at h
    subst h
    rw [show hapsC (y :: r) = hapC y ++ hapsC r from rfl, Nat.zero_mul, Nat.zero_add, List.getElem?_append_left (List.getElem?_eq_some_iff.1 hu).1]
    exact hu
  | y :: r, i + 1, x, h, k, u, hu => by
    rw [show hapsC (y :: r) = hapC y ++ hapsC r from rfl, List.getElem?_append_right (by simp [hapC]; omega)]
    rw [show (i + 1) * 3 + k - (hapC y).length = i * 3 + k by simp [hapC]; omega]
    exact hapsC_at r i x (by simpa using h) k u hu
theorem Lies.at {w : World} {A : Option Addr} {l : List Hap} (h : Lies w A l) {i : Nat} {x : Hap} (hi : l[i]? = some x) : ∃ g o, A = some ⟨g, o, none⟩ ∧ w.cell? ⟨g, o + i * 3, none⟩ = some (.int .i64 x.kind) ∧ w.cell? ⟨g, o + i * 3 + 1, none⟩ = some (.string x.text) ∧ w.cell? ⟨g, o + i * 3 + 2, none⟩ = some (.int .i64 x.num) := by
  obtain ⟨g, o, e, _, hc⟩ := h (fun e => by rw [e] at hi; simp at hi)
  refine ⟨g, o, e, ?_, ?_, ?_⟩
  · exact hc _ _ (hapsC_at l i x hi 0 _ rfl)
  · rw [Nat.add_assoc]; exact hc _ _ (hapsC_at l i x hi 1 _ rfl)
  · rw [Nat.add_assoc]; exact hc _ _ (hapsC_at l i x hi 2 _ rfl)
theorem neq_hap (a b : Int) (s : ByteArray) (w : World) : (binOp .neq THp (.agg #[.int .i64 a, .string s, .int .i64 b]) (.agg #[.int .i64 a, .string s, .int .i64 b])).run Try.prog w = .ok (.bool false) w := by
  rw [run_neq_struct, run_equalIn_struct w 9999 THp _ _ (by kernel_rfl) (by kernel_rfl)]
  simp [go_sem]
theorem same_eq (A B : Option Addr) (c d : Nat) (l : List Hap) (w : World) (hA : Lies w A l) (hB : Lies w B l) (hl : l.length ≤ 1000000) :
    Calls Try.prog 19 #[.slice A l.length c, .slice B l.length d] w fun e w' => e = .returned (.bool true) ∧ Below w.heap.size w w' := by
  obtain ⟨n, hn⟩ : ∃ n, l.length = n := ⟨_, rfl⟩
  have HN := Lib.hid (And.intro hn (And.intro hA hB))
  rw [hn] at hl ⊢
  clear hn hA hB
  go_enter Try.func19, Try.ntmps19
  go_wp2_with fail
  go_loopg [5] (n + 1) (fun k v5 wr => ∃ i : Nat, v5 = .int .i64 i ∧ i ≤ n ∧ n + 1 - i ≤ k ∧ Hid (Below w.heap.size w wr))
  case atStart => exact ⟨0, rfl, by omega, by omega, Lib.hid (Below.refl _ _)⟩
  case round =>
    obtain ⟨i, rfl, hi, hik, HB⟩ := hrel
    by_cases hlt : i < n
    · have h1 : (i : Int) < n := by omega
      have h2 : (0 : Int) ≤ i := by omega
      obtain ⟨x, hx⟩ : ∃ x, l[i]? = some x := ⟨_, List.getElem?_eq_getElem (by rw [HN.out.1]; exact hlt)⟩
      obtain ⟨g, o, eA, a0, a1, a2⟩ := (HN.out.2.1.on HB.out).at hx
      obtain ⟨g', o', eB, b0, b1, b2⟩ := (HN.out.2.2.on HB.out).at hx
      subst eA eB
      have hne := neq_hap x.kind x.num x.text
      go_wp2_with fail
      go_quiet (fail)
      go_wp2_with fail
      go_roundg (gk - 1)
      case measure => omega
      case rel => exact ⟨i + 1, by go_num, by omega, by omega, Lib.hid ⟨HB.out.os, HB.out.tape, HB.out.output, HB.out.size, HB.out.block⟩⟩
    · obtain rfl : i = n := by omega
      go_wp2_with fail
      go_ret
      exact ⟨rfl, HB.out⟩
end Go.Proofs.Ytlddeagolhdieaa
