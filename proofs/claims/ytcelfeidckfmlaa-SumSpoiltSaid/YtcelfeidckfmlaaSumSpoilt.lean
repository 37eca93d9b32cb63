/- The law SumSpoilt returns true at every input: its walk. -/
import Derived.Test.YtcelfeidckfmlaaSumJoin
import Derived.Test.YtcelfeidckfmlaaBytes
import Derived.StillTailTactics
namespace Go.Proofs.Ytcelfeidckfmlaa
open Go.RowKit CrcMath

theorem ret_bool {b : Bool} (h : b = true) : Ending.returned (.bool b) = .returned (.bool true) := by rw [h]

theorem mod_succ_bit (e q : Nat) : e % 2 ^ (q + 1) = (e % 2 ^ q) ^^^ (2 ^ q * (e / 2 ^ q % 2)) := by
  have h := low_high q (e % 2 ^ (q + 1))
  rw [Nat.mod_mod_of_dvd _ (Nat.pow_dvd_pow 2 (Nat.le_succ q)), Nat.pow_succ, Nat.mod_mul_right_div_self] at h
  rw [Nat.pow_succ]; exact h

theorem pow_lt_256 {r : Nat} (hr : r < 8) : 2 ^ r < 256 := by
  have : 2 ^ r < 2 ^ 8 := Nat.pow_lt_pow_right (by omega) hr
  simpa using this

theorem ofNat_pow {r : Nat} (hr : r < 8) : (UInt8.ofNat (2 ^ r)).toNat = 2 ^ r := by
  rw [UInt8.toNat_ofNat']; exact Nat.mod_eq_of_lt (pow_lt_256 hr)

theorem u8_flip (c : UInt8) {r : Nat} (hr : r < 8) : bits BinOp.xor IntKind.u8 (c.toNat : Int) ((2 : Int) ^ r % 256) = (((c ^^^ UInt8.ofNat (2 ^ r)).toNat : Nat) : Int) := by
  have h1 : ((2 : Int) ^ r % 256) = ((2 ^ r : Nat) : Int) := by
    have := pow_lt_256 hr
    rw [show ((2 : Int) ^ r) = ((2 ^ r : Nat) : Int) from by simp]
    generalize 2 ^ r = z at this ⊢
    omega
  rw [h1, u8_xor_nat _ _ c.toNat_lt (pow_lt_256 hr), UInt8.toNat_xor, ofNat_pow hr]

theorem flip_byte (c : UInt8) {r : Nat} (hr : r < 8) : (c.toNat ^^^ (c ^^^ UInt8.ofNat (2 ^ r)).toNat) = 2 ^ r := by
  rw [UInt8.toNat_xor, ofNat_pow hr, ← Nat.xor_assoc, Nat.xor_self, Nat.zero_xor]

theorem flip_num {X at_ q e : Nat} (h : e / 2 ^ q % 2 = 1) : X ^^^ (2 ^ at_ * (e % 2 ^ q)) ^^^ (2 ^ (8 * ((at_ + q) / 8)) * 2 ^ ((at_ + q) % 8)) = X ^^^ (2 ^ at_ * (e % 2 ^ (q + 1))) := by
  rw [mod_succ_bit, h, Nat.mul_one, pow_mul_xor, ← Nat.pow_add, ← Nat.pow_add, show 8 * ((at_ + q) / 8) + (at_ + q) % 8 = at_ + q from by omega, Nat.xor_assoc]

theorem flip_some {e q : Nat} (h : e / 2 ^ q % 2 = 1) : decide (e % 2 ^ (q + 1) ≠ 0) = true := by
  rw [decide_eq_true_iff]
  intro hz
  have h1 : e % 2 ^ (q + 1) / 2 ^ q = 1 := by rw [Nat.pow_succ, Nat.mod_mul_right_div_self]; exact h
  rw [hz] at h1
  simp at h1

set_option maxRecDepth 100000 in
set_option maxHeartbeats 1000000 in
theorem sumSpoilt_walk (s : ByteArray) (at_ : Nat) (e : Nat) (w : World) (hs : s.size ≤ 3000) (ha : at_ < 8 * s.size) (he : e < 4294967296) :
    Calls Try.prog 8 #[.string s, .int .i64 at_, .int .u32 e] w fun e w' => e = .returned (.bool true) ∧ Below w.heap.size w w' := by
  have hd : decide (3000 < (s.size : Int)) = false := by simp; omega
  have hd1 : decide ((at_ : Int) < 0) = false := by simp
  have hd2 : decide ((8 * (s.size : Int)) ≤ (at_ : Int)) = false := by simp; omega
  have hconv := fun w => Lib.run_convert_string_bytes (P := Try.prog) w 9 33 5 s Try.underlying9 Try.underlying33 Try.underlying5
  go_enter Try.func8, Try.ntmps8
  go_wp2_with fail
  refine (sumWorks_any _).mono ?_
  rintro e w1 ⟨rfl, hb1⟩
  go_wp2
  have hB0 := BRow.new w1 s
  have hbW : Below w.heap.size w (Lib.bytesWorld w1 5 s) := hb1.trans ((below_bytesWorld w1 s).mono hb1.size)
  generalize hW : Lib.bytesWorld w1 5 s = W at hB0 hbW ⊢
  have hg : w.heap.size ≤ w1.heap.size := hb1.size
  clear hW hconv hb1 hd hd1 hd2
  generalize w1.heap.size = g at hB0 hg ⊢
  generalize grownCap w1 s.size 0 5 = cap
  have hlen : s.data.toList.length = s.size := rfl
  go_loopw [8, 9] (fun tu k wr => ∃ (q : Nat) (bl : List UInt8), q ≤ 32 ∧ at_ + q ≤ 8 * s.size ∧ k = .int .i64 q ∧ tu = .bool (decide (e % 2 ^ q ≠ 0)) ∧ Hid (bl.length = s.size) ∧ Hid (num bl = num s.data.toList ^^^ (2 ^ at_ * (e % 2 ^ q))) ∧ BRow wr g bl ∧ Below w.heap.size w wr) (fun _ k _ => 32 - (intOf k).toNat)
  case atStart =>
    refine ⟨0, s.data.toList, by omega, by omega, rfl, ?_, hlen, ?_, hB0, hbW⟩
    · simp [Nat.mod_one]
    · show _ = _
      simp [Nat.mod_one]
  case round =>
    obtain ⟨q, bl, hq, hq2, rfl, rfl, HL, HN, hrow, hbr⟩ := hrel
    by_cases hc : q < 32 ∧ at_ + q < 8 * s.size
    · obtain ⟨hc1, hc2⟩ := hc
      have hbit : (bits BinOp.and IntKind.u32 (↑e / 2 ^ q) 1 == 1) = decide (e / 2 ^ q % 2 = 1) := by
        have h2 : ((e : Int) / 2 ^ q) = ((e / 2 ^ q : Nat) : Int) := by simp
        have h3 : e / 2 ^ q < 4294967296 := Nat.lt_of_le_of_lt (Nat.div_le_self _ _) (by omega)
        have := u32_and_nat (e / 2 ^ q) 1 h3 (by omega)
        rw [nat_mask1] at this
        rw [h2, show (1 : Int) = ((1 : Nat) : Int) from rfl, this]
        rw [Bool.eq_iff_iff]; simp; omega
      by_cases hb : e / 2 ^ q % 2 = 1
      · have hb2 : (bits BinOp.and IntKind.u32 (↑e / 2 ^ q) 1 == 1) = true := by rw [hbit]; simp [hb]
        clear hbit
        have HB := Lib.hid hb; clear hb
        have hp : (at_ + q) / 8 < bl.length := by rw [HL.out]; omega
        have hcell := hrow.cell hp
        have hfro := hrow.frozen hp
        have HR := Lib.hid hrow; clear hrow
        have HBe := Lib.hid hbr; clear hbr
        go_wp2
        have hw1 : IntKind.i64.wrap ((at_ : Int) + q) = (at_ : Int) + q := IntWalk.i64_in _ (by omega)
        have hw2 : IntKind.i64.wrap (((at_ : Int) + q).tdiv 8) = ((at_ : Int) + q) / 8 := by rw [Int.tdiv_eq_ediv_of_nonneg (by omega)]; exact IntWalk.i64_in _ (by omega)
        have hw3 : ((at_ : Int) + q).tmod 8 = ((at_ : Int) + q) % 8 := Int.tmod_eq_emod_of_nonneg (by omega)
        have hw4 : 0 ≤ (at_ : Int) + q := by omega
        have hw5 : 0 ≤ ((at_ : Int) + q) / 8 := by omega
        have hw6 : ((at_ : Int) + q) / 8 < (s.size : Int) := by omega
        have hw7 : (((at_ : Int) + q) / 8).toNat = (at_ + q) / 8 := by omega
        have hw8 : 0 ≤ ((at_ : Int) + q) % 8 := by omega
        go_still_tail 14, (by kernel_rfl)
        change wpList _ _ _ _ _ wr.drew
        have hcell' : wr.drew.cell? ⟨g, (at_ + q) / 8, none⟩ = some (.int .u8 (bl.getD ((at_ + q) / 8) 0).toNat) := hcell
        have hfro' : wr.drew.frozen? ⟨g, (at_ + q) / 8, none⟩ = false := hfro
        have HR' : Hid (BRow wr.drew g bl) := HR
        have HBe' : Hid (Below w.heap.size w wr.drew) := HBe.out.drew
        clear hcell hfro HR HBe
        generalize wr.drew = w2 at hcell' hfro' HR' HBe' ⊢
        go_wp2
        have hp2 := hp
        have hr : (at_ + q) % 8 < 8 := Nat.mod_lt _ (by omega)
        have hx := u8_flip (bl.getD ((at_ + q) / 8) 0) hr
        have hbl : bl[(at_ + q) / 8].toNat = (bl.getD ((at_ + q) / 8) 0).toNat := by simp [List.getD, hp2]
        rw [hbl, hx]
        refine ⟨⟨q + 1, bl.set ((at_ + q) / 8) (bl.getD ((at_ + q) / 8) 0 ^^^ UInt8.ofNat (2 ^ ((at_ + q) % 8))), by omega, by omega, by go_num, ?_, ?_, ?_, HR'.out.set _ _, HBe'.out.setCell hg _⟩, ?_⟩
        · rw [flip_some HB.out]
        · show _ = _
          rw [List.length_set]; exact HL.out
        · show _ = _
          rw [num_set _ _ _ hp2, flip_byte _ hr, HN.out]
          exact flip_num HB.out
        · simp [intOf]; omega
      · have hb2 : (bits BinOp.and IntKind.u32 (↑e / 2 ^ q) 1 == 1) = false := by rw [hbit]; simp [hb]
        clear hbit
        have hb0 : e / 2 ^ q % 2 = 0 := by omega
        have HB := Lib.hid hb0; clear hb hb0
        go_wp2
        refine ⟨⟨q + 1, bl, by omega, by omega, by go_num, ?_, HL, ?_, hrow, hbr⟩, ?_⟩
        · rw [mod_succ_bit, HB.out, Nat.mul_zero, Nat.xor_zero]; simp
        · show _ = _
          rw [mod_succ_bit, HB.out, Nat.mul_zero, Nat.xor_zero]; exact HN.out
        · simp [intOf]; omega
    · have hstr := hrow.str (cap := cap) 33 9 5 Try.underlying33 Try.underlying5 Try.underlying9
      rw [HL.out] at hstr
      have hbs : (ByteArray.mk bl.toArray).size ≤ 9223372036854775807 := by
        have := HL.out
        show bl.toArray.size ≤ _
        simp; omega
      have hfin : ((!decide (e % 2 ^ q = 0)) == ((crc bl : Int) != (crc s.data.toList : Int))) = true := by
        have h1 := crc_window (l := bl) (m := s.data.toList) (by rw [HL.out]; rfl) HN.out (by show at_ ≤ 8 * s.size; omega) (e := e % 2 ^ q) (Nat.lt_of_le_of_lt (Nat.mod_le _ _) (by omega))
        by_cases hz : e % 2 ^ q = 0
        · rw [h1.2 hz]; simp [hz]
        · have : crc bl ≠ crc s.data.toList := fun h => hz (h1.1 h)
          have h2 : ((crc bl : Int) != (crc s.data.toList : Int)) = true := by rw [bne_iff_ne]; omega
          rw [h2]; simp [hz]
      have HF := Lib.hid hfin; clear hfin
      have hss : s.size ≤ 9223372036854775807 := by omega
      clear HN
      clear hrow
      by_cases hc1 : q < 32
      · have hc2 : ¬ (at_ + q < 8 * s.size) := fun h => hc ⟨hc1, h⟩
        clear hc
        go_wp2_with fail
        refine (of_any _ _ hbs).mono ?_
        rintro e2 w3 ⟨rfl, hb3⟩
        simp only []
        go_wp2_with fail
        refine (of_any _ _ hss).mono ?_
        rintro e2 w4 ⟨rfl, hb4⟩
        go_wp2
        go_ret
        have z2 := hbr.trans (hb3.mono hbr.size)
        exact ⟨ret_bool HF.out, z2.trans (hb4.mono z2.size)⟩
      · clear hc
        go_wp2_with fail
        refine (of_any _ _ hbs).mono ?_
        rintro e2 w3 ⟨rfl, hb3⟩
        simp only []
        go_wp2_with fail
        refine (of_any _ _ hss).mono ?_
        rintro e2 w4 ⟨rfl, hb4⟩
        go_wp2
        go_ret
        have z2 := hbr.trans (hb3.mono hbr.size)
        exact ⟨ret_bool HF.out, z2.trans (hb4.mono z2.size)⟩


set_option maxRecDepth 100000 in
set_option maxHeartbeats 1000000 in
theorem sumSpoilt_out (s : ByteArray) (at_ : Int) (e : Nat) (w : World) (h : 3000 < s.size ∨ s.size ≤ 3000 ∧ (at_ < 0 ∨ 0 ≤ at_ ∧ 8 * (s.size : Int) ≤ at_)) :
    Calls Try.prog 8 #[.string s, .int .i64 at_, .int .u32 e] w fun e w' => e = .returned (.bool true) ∧ Below w.heap.size w w' := by
  rcases h with h | ⟨h3, h | ⟨h0, h⟩⟩
  · have hd : decide (3000 < (s.size : Int)) = true := by simp; omega
    clear h
    go_enter Try.func8, Try.ntmps8
    go_wp2_with fail
    refine (sumWorks_any _).mono ?_
    rintro e w1 ⟨rfl, hb1⟩
    go_wp2
    go_ret
    exact ⟨rfl, hb1⟩
  · have hd : decide (3000 < (s.size : Int)) = false := by simp; omega
    have hd1 : decide (at_ < 0) = true := by simp; omega
    clear h
    go_enter Try.func8, Try.ntmps8
    go_wp2_with fail
    refine (sumWorks_any _).mono ?_
    rintro e w1 ⟨rfl, hb1⟩
    go_wp2
    go_ret
    exact ⟨rfl, hb1⟩
  · have hd : decide (3000 < (s.size : Int)) = false := by simp; omega
    have hd1 : decide (at_ < 0) = false := by simp; omega
    have hd2 : decide (8 * (s.size : Int) ≤ at_) = true := by simp; omega
    clear h
    go_enter Try.func8, Try.ntmps8
    go_wp2_with fail
    refine (sumWorks_any _).mono ?_
    rintro e w1 ⟨rfl, hb1⟩
    go_wp2
    go_ret
    exact ⟨rfl, hb1⟩

theorem sumSpoilt_all (s : ByteArray) (at_ : Int) (e : Nat) (w : World) (he : e < 4294967296) :
    Calls Try.prog 8 #[.string s, .int .i64 at_, .int .u32 e] w fun e w' => e = .returned (.bool true) ∧ Below w.heap.size w w' := by
  by_cases h : 3000 < s.size ∨ s.size ≤ 3000 ∧ (at_ < 0 ∨ 0 ≤ at_ ∧ 8 * (s.size : Int) ≤ at_)
  · exact sumSpoilt_out s at_ e w h
  · obtain ⟨n, rfl⟩ := Int.eq_ofNat_of_zero_le (show 0 ≤ at_ by omega)
    exact sumSpoilt_walk s n e w (by omega) (by omega) he

end Go.Proofs.Ytcelfeidckfmlaa
