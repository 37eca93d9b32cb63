/- A pattern that came in: its kind and its text; the reach of texts. -/
import Derived.Test.YtfhggnbnbopkkaaDoorRowKit
import Derived.Lib.SmallJoins
import Derived.SizedLaws
namespace Go.Proofs.YtfhggnbnbopkkaaDoor
open Go.ChangeShapes Go.WideShapes Go.RowKit Go.Joins
set_option maxRecDepth 100000

theorem mem_weights {H : Type} {P : Program} {ts : List TypeId} {ds : List (DataW H)} (h : (DataW.weightsEach P ts ds).all (· ≤ reachBytes) = true) {j : Nat} {t : TypeId} {d : DataW H} (ht : ts[j]? = some t) (hd : ds[j]? = some d) : ∀ n ∈ d.weights P t, n ≤ 140737488351232 := by
  intro n hn
  have : n ≤ reachBytes := of_decide_eq_true (List.all_eq_true.1 h n (DataW.weights_mem_each ht hd n hn))
  exact this

theorem str_weight {H : Type} {P : Program} {t : TypeId} {s : ByteArray} (h : ∀ n ∈ (DataW.lit (.string s.data.toList) : DataW H).weights P t, n ≤ 140737488351232) : s.size ≤ 140737488355327 := by
  have := h s.data.toList.length (by simp [DataW.weights])
  have e : s.data.toList.length = s.size := rfl
  omega

theorem pat_weight {H : Type} {y : DataW H} {s : ByteArray} (h : ∀ n ∈ (DataW.agg [y, .lit (.string s.data.toList)] : DataW H).weights Tryd.prog 32, n ≤ 140737488351232) : s.size ≤ 140737488355327 := by
  have := h s.data.toList.length (by simp [DataW.weights, DataW.weightsEach, Tryd.underlying32])
  have e : s.data.toList.length = s.size := rfl
  omega

theorem open_pat {H : Type} {enc : TypeId × Value → H} {W : World} {r : Reach} {b0 : Nat} {v : Value} {d : DataW H} {p : List MemPlace} (hv : Value.okWide Tryd.prog W r b0 32 v) (k : DataW.Trod enc Tryd.prog W 0 (fun _ => true) true 32 v d p) :
    ∃ (x : Int) (s : ByteArray) (y : DataW H), v = .agg #[.int .i64 x, .string s] ∧ d = .agg [y, .lit (.string s.data.toList)] ∧ s.size ≤ 9223372036854775807 ∧ (-9223372036854775808 ≤ x ∧ x ≤ 9223372036854775807) := by
  obtain ⟨ua, ub, ya, yb, n, rfl, rfl, rfl, ea, eb⟩ := open_agg2 Tryd.underlying32 (by kernel_rfl) (by kernel_rfl) hv k
  obtain ⟨x, hx, hw, hwf⟩ := DataW.trod_int Tryd.underlying3 ea
  obtain rfl : ua = .int .i64 x := by simpa using hx
  obtain ⟨s, hs, hy, hz⟩ := DataW.trod_string Tryd.underlying9 eb
  obtain rfl : ub = .string s := by simpa using hs
  subst hy
  exact ⟨x, s, ya.1, rfl, rfl, str_le hz, int_i64 (by first | exact hwf | exact hw)⟩
end Go.Proofs.YtfhggnbnbopkkaaDoor
