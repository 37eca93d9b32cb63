/- The law WireNumbers. -/
import Derived.Test.YteandcpjadmgcaaWireWorks
namespace Go.Proofs.Yteandcpjadmgcaa
open Go.RowKit

theorem SArg.wide {w : World} {B B' : Nat} {A : Option Addr} {ss : List ByteArray} (h : SArg w B A ss) (hB : B ≤ B') : SArg w B' A ss :=
  fun hp => by obtain ⟨ad, e, hl, hc⟩ := h hp; exact ⟨ad, e, Nat.lt_of_lt_of_le hl hB, hc⟩
/-- an argument, carried on to a later world -/
theorem SArg.on {w w' : World} {A : Option Addr} {ss : List ByteArray} (h : SArg w w.heap.size A ss) (hb : Below w.heap.size w w') : SArg w' w'.heap.size A ss :=
  (h.below hb (Nat.le_refl _)).wide hb.size

theorem sizes_le {ss : List ByteArray} (h : ∀ s ∈ ss, s.size ≤ 9223372036854775807) {k : Nat} (hk : k < ss.length) : ss[k].size ≤ 9223372036854775807 := h _ (List.getElem_mem hk)

set_option maxRecDepth 100000 in
set_option maxHeartbeats 4000000 in
theorem wireNumbers_walk (a b c : Nat) (s : ByteArray) (A : Option Addr) (cap : Nat) (ss : List ByteArray) (w : World) (h0 : a < 256) (h1 : b < 4294967296) (h2 : c < 18446744073709551616) (h3 : s.size ≤ 9223372036854775807)
    (ha : SArg w w.heap.size A ss) (hA : A = none → ss = [] ∧ cap = 0) (hss : ∀ s ∈ ss, s.size ≤ 9223372036854775807) (hn : ss.length ≤ 9223372036854775807) :
    Calls Try.prog 3 #[.int .u8 a, .int .u32 b, .int .u64 c, .string s, .slice A ss.length cap] w fun e w' => e = .returned (.bool true) ∧ Below w.heap.size w w' := by
  go_enter Try.func3, Try.ntmps3
  go_wp2_with fail
  refine (works_true w).mono ?_
  rintro e w1 ⟨rfl, hb1⟩
  have ha1 := ha.below hb1 (Nat.le_refl _)
  go_wp2_with fail
  go_loop [11, 13, 23] (fun al _ i => ∃ k : Nat, k ≤ ss.length ∧ i = .int .i64 k ∧ al = .int .i64 (total (ss.take k) : Nat) ∧ total (ss.take k) ≤ 524288) (fun _ _ i => ss.length - (intOf i).toNat)
  case atStart => exact ⟨0, by omega, rfl, rfl, by simp [total]⟩
  case round =>
    obtain ⟨k, hk, rfl, rfl, hT⟩ := hrel
    by_cases hlt : k < ss.length
    · obtain ⟨ad, rfl, hadb, hcell⟩ := ha1.at_ hlt
      have hsn := total_snoc ss k hlt
      have hsz := sizes_le hss hlt
      have HS := Lib.hid hsn; have HA := Lib.hid ha; have HA1 := Lib.hid ha1; clear hsn ha ha1 hss
      have hlt2 : (k : Int) < ss.length := by omega
      generalize hsk : ss[k] = x at *
      clear hsk
      generalize total (ss.take k) = T at *
      by_cases hbig : 524288 < T + x.size
      · have hd : decide ((524288 : Int) - T < x.size) = true := by simp; omega
        go_wp2_with fail
        go_ret
        exact ⟨rfl, hb1⟩
      · have hd : decide ((524288 : Int) - T < x.size) = false := by simp; omega
        go_wp2_with fail
        go_round
        case rel => exact ⟨k + 1, by omega, by go_num, by rw [HS.out]; go_num, by rw [HS.out]; omega⟩
        case measure => simp [intOf]; omega
    · have hke : k = ss.length := by omega
      subst hke
      rw [List.take_length] at hT
      by_cases hs1 : 524288 < s.size
      · have hd : decide (524288 < (s.size : Int)) = true := by simp; omega
        clear ha ha1 hss
        go_wp2_with fail
        go_ret
        exact ⟨rfl, hb1⟩
      have hd1 : decide (524288 < (s.size : Int)) = false := by simp; omega
      by_cases hn1 : 524288 < ss.length
      · have hd : decide (524288 < (ss.length : Int)) = true := by simp; omega
        clear ha ha1 hss
        go_wp2_with fail
        go_ret
        exact ⟨rfl, hb1⟩
      have hd2 : decide (524288 < (ss.length : Int)) = false := by simp; omega
      have HA := Lib.hid ha; clear ha
      have HC := Lib.hid (clone_any A cap ss w1 (HA.out.on hb1) hA (by omega))
      clear ha1 hss hA
      go_wp2_with fail
      refine HC.out.mono ?_
      rintro e w2 ⟨A', cap', rfl, ha2, hb2⟩
      have hW := Lib.hid (below_then hb1 hb2 (Nat.le_refl _))
      have HA2 := Lib.hid ha2; clear ha2 hb1 hb2 HC
      go_wp2_with fail
      refine (wireText_any s w2 (by omega)).mono ?_
      rintro e w3 ⟨rfl, hb3⟩
      have HT := Lib.hid (wireTexts_any A' cap' ss w3 (HA2.out.on hb3) (by omega) (by omega))
      go_wp2_with fail
      refine HT.out.mono ?_
      rintro e w4 ⟨rfl, hb4⟩
      have hc4 := hb3.trans (hb4.mono hb3.size)
      clear hb3 hb4 HT
      go_wp2_with fail
      refine (wireU8_any a w4 (by omega) (by omega)).mono ?_
      rintro e w5 ⟨rfl, hb5⟩
      simp only [Int.toNat_natCast]
      have hc5 := hc4.trans (hb5.mono hc4.size)
      clear hc4 hb5
      go_wp2_with fail
      refine (refNumber_any a 1 w5 (by omega) (by omega)).mono ?_
      rintro e w6 ⟨rfl, hb6⟩
      have hc6 := hc5.trans (hb6.mono hc5.size)
      clear hc5 hb6
      go_wp2_with fail
      refine (wireU32_any b w6 (by omega) (by omega)).mono ?_
      rintro e w7 ⟨rfl, hb7⟩
      simp only [Int.toNat_natCast]
      have hc7 := hc6.trans (hb7.mono hc6.size)
      clear hc6 hb7
      go_wp2_with fail
      refine (refNumber_any b 4 w7 (by omega) (by omega)).mono ?_
      rintro e w8 ⟨rfl, hb8⟩
      have hc8 := hc7.trans (hb8.mono hc7.size)
      clear hc7 hb8
      go_wp2_with fail
      refine (wireU64_any c w8 (by omega) (by omega)).mono ?_
      rintro e w9 ⟨rfl, hb9⟩
      simp only [Int.toNat_natCast]
      have hc9 := hc8.trans (hb9.mono hc8.size)
      clear hc8 hb9
      go_wp2_with fail
      refine (refNumber_any c 8 w9 (by omega) (by omega)).mono ?_
      rintro e w10 ⟨rfl, hb10⟩
      have hc10 := hc9.trans (hb10.mono hc9.size)
      clear hc9 hb10
      go_wp2_with fail
      refine (refText_any s w10 (by omega)).mono ?_
      rintro e w11 ⟨rfl, hb11⟩
      have hc11 := hc10.trans (hb11.mono hc10.size)
      have HT := Lib.hid (refTexts_any A cap ss w11 (HA.out.on (below_then hW.out hc11 (Nat.le_refl _))) (by omega) (by omega))
      clear hc10 hb11
      go_wp2_with fail
      refine HT.out.mono ?_
      rintro e w12 ⟨rfl, hb12⟩
      have hc12 := hc11.trans (hb12.mono hc11.size)
      have HE := Lib.hid (equal_true A' A cap' cap ss w12 (HA2.out.on hc12) (HA.out.on (below_then hW.out hc12 (Nat.le_refl _))) (by omega))
      clear hc11 hb12 HT
      go_wp2_with fail
      refine HE.out.mono ?_
      rintro e w13 ⟨rfl, hb13⟩
      have hc13 := hc12.trans (hb13.mono hc12.size)
      clear hc12 hb13
      go_wp2
      go_ret
      exact ⟨rfl, below_then hW.out hc13 (Nat.le_refl _)⟩

end Go.Proofs.Yteandcpjadmgcaa
