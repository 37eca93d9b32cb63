/- great: too much. -/
import Derived.Test.YtlddeagolhdieaaHubRefAdd
namespace Go.Proofs.Ytlddeagolhdieaa
open Go.RowKit Go.MuLone Go.Conc

set_option maxRecDepth 100000
set_option maxHeartbeats 4000000
def Small (ops : List Op5) : Prop := ops.length ≤ 500 ∧ ∀ (j : Nat) o, ops[j]? = some o → o.l.length ≤ 20000
theorem great_any (A : Option Addr) (c : Nat) (ops : List Op5) (w : World) (hA : OpsIn w A ops) (hn : ops.length ≤ 9223372036854775807) :
    Calls Try.prog 9 #[.slice A ops.length c] w fun e w' => w' = w ∧ (e = .returned (.bool true) ∨ e = .returned (.bool false) ∧ Small ops) := by
  have HA := Lib.hid hA
  obtain ⟨n, hln⟩ : ∃ n, ops.length = n := ⟨_, rfl⟩
  have HN := Lib.hid hln
  rw [hln] at hn ⊢
  clear hA hln
  go_enter Try.func9, Try.ntmps9
  go_wp2_with fail
  go_loopg [3, 4] (n + 1) (fun k v3 v4 wr => ∃ i s : Nat, v4 = .int .i64 i ∧ v3 = .int .i64 s ∧ i ≤ n ∧ s ≤ 20000 ∧ n + 1 - i ≤ k ∧ wr = w ∧ Hid (∀ (j : Nat) o, j < i → ops[j]? = some o → o.l.length ≤ 20000))
  case atStart => exact ⟨0, 0, rfl, rfl, by omega, by omega, by omega, rfl, Lib.hid (fun j o h => by omega)⟩
  case round =>
    obtain ⟨i, s, rfl, rfl, hi, hs, hik, rfl, HB⟩ := hrel
    by_cases hlt : i < n
    · have h1 : (i : Int) < n := by omega
      have h2 : (0 : Int) ≤ i := by omega
      obtain ⟨o, ho⟩ : ∃ o, ops[i]? = some o := ⟨_, List.getElem?_eq_getElem (by rw [HN.out]; exact hlt)⟩
      obtain ⟨ad, rfl, hat⟩ := HA.out i o ho
      have k4 : wr.cell? ⟨(ad.add (i * 5)).block, (ad.add (i * 5)).off + 4, none⟩ = some (.slice o.A o.l.length o.c) := hat.c4
      have hlen := hat.b4
      by_cases hbig : 20000 < s + (1 + o.l.length)
      · have d1 : decide (20000 < (s : Int) + (1 + o.l.length)) = true := decide_eq_true (by omega)
        clear hat hbig
        go_wp2_with fail
        go_ret
        exact ⟨rfl, .inl rfl⟩
      · have d1 : decide (20000 < (s : Int) + (1 + o.l.length)) = false := decide_eq_false (by omega)
        have HB2 : Hid (∀ (j : Nat) o, j < i + 1 → ops[j]? = some o → o.l.length ≤ 20000) := Lib.hid (fun j o' hj ho' => by
          by_cases e : j = i
          · subst e; rw [ho] at ho'; cases ho'; omega
          · exact HB.out j o' (by omega) ho')
        clear hat
        go_wp2_with fail
        go_roundg (gk - 1)
        case measure => omega
        case rel => exact ⟨i + 1, s + (1 + o.l.length), by go_num, by go_num, by omega, by omega, by omega, rfl, HB2⟩
    · obtain rfl : i = n := by omega
      by_cases hmany : 500 < i
      · have HM := Lib.hid hmany
        clear hmany
        go_wp2_with fail
        go_ret
        exact ⟨rfl, .inl (by have := HM.out; simp; omega)⟩
      · have HM := Lib.hid hmany
        have HS : Hid (Small ops) := Lib.hid ⟨by rw [HN.out]; omega, fun j o ho => HB.out j o (by have := (List.getElem?_eq_some_iff.1 ho).1; rw [HN.out] at this; exact this) ho⟩
        clear hmany
        go_wp2_with fail
        go_ret
        exact ⟨rfl, .inr ⟨by have := HM.out; simp; omega, HS.out⟩⟩
end Go.Proofs.Ytlddeagolhdieaa
