/- The document's byte of a class. -/
import Derived.Test.YtpiflikblpfgoaaDoorPatRefLeaf
namespace Go.Proofs.YtpiflikblpfgoaaDoor
open Go.RowKit PM

/-- what the document's byte of a class tells -/
def rmemV (r : R Nat) : Value :=
  match r with
  | .ok x n => .tuple #[.int .u8 x, .int .i64 n, .bool true]
  | .bad k => .tuple #[.int .u8 0, .int .i64 k, .bool false]

set_option maxRecDepth 100000 in
theorem rmember_any (s : ByteArray) (a : Nat) (w : World) (ha : a ≤ s.size) (hs : s.size ≤ 1000000) :
    Calls Tryd.prog 56 #[.string s, .int .i64 a] w fun e w' => e = .returned (rmemV (member s.data.toList a)) ∧ w = w' := by
  rcases member_cases s.data.toList a with ⟨h1, hm⟩ | ⟨c, h1, h2, h3, hm⟩ | ⟨c, d, h1, h2, h3, hm⟩ | ⟨c, h1, h2, hm⟩ | ⟨c, h1, h2, h3, h4, h5, h6, hm⟩
  · rw [hm]
    simp only [rmemV]
    have hl := byte_none s a h1
    obtain rfl : a = s.size := by omega
    clear h1 hm hl
    go_enter Tryd.func56, Tryd.ntmps56
    go_wp2_with fail
    go_ret3
    exact ⟨rfl, rfl⟩
  · rw [hm]
    simp only [rmemV]
    obtain ⟨hl, rfl⟩ := byte_at s a c h1
    have hl2 := byte_none s (a + 1) h3
    have x0 : ((a : Int) == (s.size : Int)) = false := by rw [beq_eq_false_iff_ne]; omega
    have x1 : ((s[a].toNat : Int) == 91) = false := by rw [h2]; rfl
    have x2 : ((s[a].toNat : Int) == 93) = false := by rw [h2]; rfl
    have x3 : ((s[a].toNat : Int) == 94) = false := by rw [h2]; rfl
    have x4 : ((s[a].toNat : Int) == 45) = false := by rw [h2]; rfl
    have x5 : ((s[a].toNat : Int) != 92) = false := by rw [h2]; rfl
    have x6 : ((a : Int) + 1 == (s.size : Int)) = true := by rw [beq_iff_eq]; omega
    have hl3 : (a : Int) < s.size := by omega
    have hl4 : (a : Int) ≤ 1000000 := by omega
    have hl5 : (0 : Int) ≤ a := by omega
    clear h1 hm h2 h3 hl2
    go_enter Tryd.func56, Tryd.ntmps56
    go_wp2_with fail
    go_ret3
    exact ⟨rfl, rfl⟩
  · rw [hm]
    simp only [rmemV]
    obtain ⟨hl, rfl⟩ := byte_at s a c h1
    obtain ⟨hl2, rfl⟩ := byte_at s (a + 1) d h3
    have x0 : ((a : Int) == (s.size : Int)) = false := by rw [beq_eq_false_iff_ne]; omega
    have x1 : ((s[a].toNat : Int) == 91) = false := by rw [h2]; rfl
    have x2 : ((s[a].toNat : Int) == 93) = false := by rw [h2]; rfl
    have x3 : ((s[a].toNat : Int) == 94) = false := by rw [h2]; rfl
    have x4 : ((s[a].toNat : Int) == 45) = false := by rw [h2]; rfl
    have x5 : ((s[a].toNat : Int) != 92) = false := by rw [h2]; rfl
    have x6 : ((a : Int) + 1 == (s.size : Int)) = false := by rw [beq_eq_false_iff_ne]; omega
    have hl3 : (a : Int) < s.size := by omega
    have hl4 : (a : Int) ≤ 1000000 := by omega
    have hl5 : (0 : Int) ≤ a := by omega
    have hl6 : (a : Int) + 1 < s.size := by omega
    clear h1 hm h2 h3
    go_enter Tryd.func56, Tryd.ntmps56
    go_wp2_with fail
    go_ret3
    exact ⟨rfl, rfl⟩
  · rw [hm]
    simp only [rmemV]
    obtain ⟨hl, rfl⟩ := byte_at s a c h1
    have x0 : ((a : Int) == (s.size : Int)) = false := by rw [beq_eq_false_iff_ne]; omega
    have hl3 : (a : Int) < s.size := by omega
    have hl4 : (a : Int) ≤ 1000000 := by omega
    have hl5 : (0 : Int) ≤ a := by omega
    clear h1 hm
    rcases h2 with h2 | h2 | h2 | h2
    all_goals
      have i1 := beq_lit 91 h2
      first | (have j1 : ((s[a].toNat : Int) == 91) = true := i1) | (have j1 : ((s[a].toNat : Int) == 91) = false := i1)
      clear i1
      have i2 := beq_lit 93 h2
      first | (have j2 : ((s[a].toNat : Int) == 93) = true := i2) | (have j2 : ((s[a].toNat : Int) == 93) = false := i2)
      clear i2
      have i3 := beq_lit 94 h2
      first | (have j3 : ((s[a].toNat : Int) == 94) = true := i3) | (have j3 : ((s[a].toNat : Int) == 94) = false := i3)
      clear i3
      have i4 := beq_lit 45 h2
      first | (have j4 : ((s[a].toNat : Int) == 45) = true := i4) | (have j4 : ((s[a].toNat : Int) == 45) = false := i4)
      clear i4
      clear h2
      go_enter Tryd.func56, Tryd.ntmps56
      go_wp2_with fail
      go_ret3
      exact ⟨rfl, rfl⟩
  · rw [hm]
    simp only [rmemV]
    obtain ⟨hl, rfl⟩ := byte_at s a c h1
    have x0 : ((a : Int) == (s.size : Int)) = false := by rw [beq_eq_false_iff_ne]; omega
    have x1 : ((s[a].toNat : Int) == 91) = false := by rw [beq_eq_false_iff_ne]; omega
    have x2 : ((s[a].toNat : Int) == 93) = false := by rw [beq_eq_false_iff_ne]; omega
    have x3 : ((s[a].toNat : Int) == 94) = false := by rw [beq_eq_false_iff_ne]; omega
    have x4 : ((s[a].toNat : Int) == 45) = false := by rw [beq_eq_false_iff_ne]; omega
    have x5 : ((s[a].toNat : Int) != 92) = true := by rw [bne_iff_ne]; omega
    have hl3 : (a : Int) < s.size := by omega
    have hl4 : (a : Int) ≤ 1000000 := by omega
    have hl5 : (0 : Int) ≤ a := by omega
    clear h1 hm h2 h3 h4 h5 h6
    go_enter Tryd.func56, Tryd.ntmps56
    go_wp2_with fail
    go_ret3
    exact ⟨rfl, rfl⟩
end Go.Proofs.YtpiflikblpfgoaaDoor
