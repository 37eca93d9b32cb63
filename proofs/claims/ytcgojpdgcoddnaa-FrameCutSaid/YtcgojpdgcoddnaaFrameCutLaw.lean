/- The law FrameCut: its walk. -/
import Derived.Test.YtcgojpdgcoddnaaFrameCut
namespace Go.Proofs.Ytcgojpdgcoddnaa
open Go.RowKit

theorem upto_mono' (ps : List (List UInt8)) (k n : Nat) (h : k ≤ n) : FM.upto ps k ≤ FM.upto ps n := by
  induction n with
  | zero => obtain rfl : k = 0 := by omega
            exact Nat.le_refl _
  | succ n ih =>
    by_cases e : k = n + 1
    · subst e; exact Nat.le_refl _
    · exact Nat.le_trans (ih (by omega)) (FM.upto_le ps n)

theorem own_ends {w : World} {base : Nat} {v : Value} {ps : List (List UInt8)} {n : Nat} (h : w.ownsRow base 3 1 v n (endsV ps n)) :
    ∃ A c, v = .slice A n c ∧ ∀ k, k < n → ∃ ad, A = some ad ∧ w.cell? (ad.add k) = some (.int .i64 (FM.upto ps (k + 1) : Nat)) := by
  have hc := fun g (hg : v.ownBlock = some g) => h.cells hg
  rcases h.2 with ⟨rfl, h0⟩ | ⟨g, cap, cur, rfl, hb, hg, _⟩
  · subst h0
    exact ⟨none, 0, rfl, fun k hk => by omega⟩
  · exact ⟨_, _, rfl, fun k hk => ⟨_, rfl, hc g rfl k _ (endsV_at ps k n hk)⟩⟩

set_option maxRecDepth 100000 in
set_option maxHeartbeats 16000000 in
theorem frameCut_walk (A : Option Addr) (c : Nat) (ss : List ByteArray) (at_ : Int) (w : World) (ha : SArg w w.heap.size A ss) (hc : ss.length ≤ c) (hn : ss.length ≤ 9223372036854775807) :
    Calls Try.prog 7 #[.slice A ss.length c, .int .i64 at_] w fun e w' => e = .returned (.bool true) ∧ Below w.heap.size w w' := by
  have HA := Lib.hid ha; clear ha
  go_enter Try.func7, Try.ntmps7
  go_wp2_with fail
  refine (works_true w).mono ?_
  rintro e w1 ⟨rfl, hb1⟩
  have HA1 := Lib.hid (sarg_on HA.out hb1)
  go_wp2_with fail
  refine (lawPut_any A c ss w1 HA1.out hn).mono ?_
  rintro e w2 ⟨he, hb2⟩
  have H2 := Lib.hid (below_then hb1 hb2 (Nat.le_refl _))
  have HA2 := Lib.hid (sarg_on HA1.out hb2)
  clear hb1 hb2 HA1 HA
  rcases he with rfl | ⟨v, rfl, hall, h60, hown⟩
  · go_wp2_with fail
    go_ret
    exact ⟨rfl, H2.out⟩
  have HS := Lib.hid (scan_all ss hall h60)
  have HC := Lib.hid (cut_any ss hall h60)
  have HO := Lib.hid hown
  have hsz := frames_short ss hall h60
  have hup : (bs (FM.frames (lists ss))).size = FM.upto (lists ss) ss.length := by
    have := FM.upto_all (lists ss)
    rw [lists_len] at this
    rw [bs_size, this]
  have HUP := Lib.hid hup
  clear hall hown hup
  generalize bs (FM.frames (lists ss)) = S at *
  go_wp2_with fail
  refine (HS.out w2).mono ?_
  rintro e w3 ⟨A3, c3, rfl, ha3, hb3⟩
  have H3 := Lib.hid (below_then H2.out hb3 (Nat.le_refl _))
  have HA3 := Lib.hid (sarg_on HA2.out hb3)
  have HB3 := Lib.hid ha3
  have HO3 := Lib.hid (ownsRow_below HO.out hb3)
  clear hb3 ha3 HA2 HO
  have E3 := Lib.hid (equal_n A3 A c3 c ss.length ss w3 rfl HB3.out HA3.out (by omega))
  have hne : ((S.size : Int) != S.size) = false := by rw [bne_eq_false_iff_eq]
  by_cases hneg : at_ < 0
  · have hd : decide (at_ < 0) = true := by simp; omega
    go_wp2_with fail
    refine E3.out.mono ?_
    rintro e w4 ⟨rfl, hb4⟩
    have H4 := Lib.hid (below_then H3.out hb4 (Nat.le_refl _))
    have HA4 := Lib.hid (sarg_on HA3.out hb4)
    have HB4 := Lib.hid (sarg_on HB3.out hb4)
    clear hb4
    go_wp2_with fail
    refine (equal_n A3 A c3 c ss.length ss w4 rfl HB4.out HA4.out (by omega)).mono ?_
    rintro e w5 ⟨rfl, hb5⟩
    go_wp2_with fail
    go_ret
    exact ⟨rfl, below_then H4.out hb5 (Nat.le_refl _)⟩
  have hd : decide (at_ < 0) = false := by simp; omega
  obtain ⟨a, rfl⟩ := Int.eq_ofNat_of_zero_le (show 0 ≤ at_ by omega)
  by_cases hbig : S.size < a
  · have hd2 : decide ((S.size : Int) < a) = true := by simp; omega
    go_wp2_with fail
    refine E3.out.mono ?_
    rintro e w4 ⟨rfl, hb4⟩
    have H4 := Lib.hid (below_then H3.out hb4 (Nat.le_refl _))
    have HA4 := Lib.hid (sarg_on HA3.out hb4)
    have HB4 := Lib.hid (sarg_on HB3.out hb4)
    clear hb4
    go_wp2_with fail
    refine (equal_n A3 A c3 c ss.length ss w4 rfl HB4.out HA4.out (by omega)).mono ?_
    rintro e w5 ⟨rfl, hb5⟩
    go_wp2_with fail
    go_ret
    exact ⟨rfl, below_then H4.out hb5 (Nat.le_refl _)⟩
  have hd2 : decide ((S.size : Int) < a) = false := by simp; omega
  go_wp2_with fail
  refine E3.out.mono ?_
  rintro e w4 ⟨rfl, hb4⟩
  have H4 := Lib.hid (below_then H3.out hb4 (Nat.le_refl _))
  have HA4 := Lib.hid (sarg_on HA3.out hb4)
  have HO4 := Lib.hid (ownsRow_below HO3.out hb4)
  clear hb4 HA3 HO3 HB3 E3
  go_wp2_with fail
  have hal : a ≤ S.size := by omega
  clear hd hd2 hneg hbig hne
  obtain ⟨vA, vc, rfl, hcell⟩ := own_ends HO4.out
  have HCell := Lib.hid hcell
  clear hcell HO4
  go_loop [10, 11] (fun i e => ∃ k : Nat, k ≤ ss.length ∧ FM.upto (lists ss) k ≤ a ∧ i = .int .i64 k ∧ e = .int .i64 (FM.upto (lists ss) k : Nat)) (fun i _ => ss.length - (intOf i).toNat)
  case atStart => exact ⟨0, by omega, by rw [FM.upto_zero]; omega, rfl, by rw [FM.upto_zero]; rfl⟩
  case round =>
    obtain ⟨k, hk, hka, rfl, rfl⟩ := hrel
    by_cases hex : k < ss.length ∧ FM.upto (lists ss) (k + 1) ≤ a
    · obtain ⟨hlt, hle⟩ := hex
      obtain ⟨ad, rfl, hcl⟩ := HCell.out k hlt
      have hlt2 : (k : Int) < ss.length := by omega
      obtain ⟨u, hu⟩ : ∃ u, FM.upto (lists ss) (k + 1) = u := ⟨_, rfl⟩
      rw [hu] at hcl hle
      have HU := Lib.hid hu
      clear hu
      go_wp2_with fail
      exact ⟨⟨k + 1, by omega, by rw [HU.out]; exact hle, by go_num, by rw [HU.out]⟩, by simp [intOf]; omega⟩
    · have hcut := HC.out k a hk hka (fun h => by
        have : ¬ FM.upto (lists ss) (k + 1) ≤ a := fun h' => hex ⟨h, h'⟩
        omega) hal
      have HC1 := Lib.hid hcut.1; have HC2 := Lib.hid hcut.2
      have hua : FM.upto (lists ss) k ≤ S.size := by omega
      have hkc : k ≤ c := by omega
      have hkA : 1 ≤ k → ∃ ad, A = some ad := fun h => by obtain ⟨ad, e, _⟩ := HA4.out (by omega); exact ⟨ad, e⟩
      clear hcut HC
      by_cases hlt : k < ss.length
      · obtain ⟨ad, rfl, hcl⟩ := HCell.out k hlt
        have hlt2 : (k : Int) < ss.length := by omega
        have hgt : ¬ FM.upto (lists ss) (k + 1) ≤ a := fun h' => hex ⟨hlt, h'⟩
        obtain ⟨u, hu⟩ : ∃ u, FM.upto (lists ss) (k + 1) = u := ⟨_, rfl⟩
        rw [hu] at hcl hgt
        have hgt2 : decide (u ≤ a) = false := by simp; omega
        clear hu hex
        go_wp2_with fail
        refine (HC1.out w4).mono ?_
        rintro e w5 ⟨A5, c5, rfl, ha5, hb5⟩
        have H5 := Lib.hid (below_then H4.out hb5 (Nat.le_refl _))
        have HA5 := Lib.hid (sarg_on HA4.out hb5)
        have HB5 := Lib.hid ha5
        clear hb5 ha5
        go_wp2_with fail
        refine (HC2.out w5).mono ?_
        rintro e w6 ⟨rfl, hb6⟩
        have H6 := Lib.hid (below_then H5.out hb6 (Nat.le_refl _))
        have HA6 := Lib.hid (sarg_take (sarg_on HA5.out hb6) k)
        have HB6 := Lib.hid (sarg_on HB5.out hb6)
        clear hb6
        have hlk : (ss.take k).length = k := by rw [List.length_take]; omega
        have HE6 := Lib.hid (fun A' c' (e : A' = A) => equal_n A5 A' c5 c' k (ss.take k) w6 hlk HB6.out (by rw [e]; exact HA6.out) (by omega))
        clear hlk
        go_wp2_with fail
        refine (HE6.out A c rfl).mono ?_
        rintro e w7 ⟨rfl, hb7⟩
        go_wp2_with fail
        go_ret
        exact ⟨rfl, below_then H6.out hb7 (Nat.le_refl _)⟩
      · have hge : ¬ ((k : Int) < ss.length) := by omega
        clear hex
        go_wp2_with fail
        refine (HC1.out w4).mono ?_
        rintro e w5 ⟨A5, c5, rfl, ha5, hb5⟩
        have H5 := Lib.hid (below_then H4.out hb5 (Nat.le_refl _))
        have HA5 := Lib.hid (sarg_on HA4.out hb5)
        have HB5 := Lib.hid ha5
        clear hb5 ha5
        go_wp2_with fail
        refine (HC2.out w5).mono ?_
        rintro e w6 ⟨rfl, hb6⟩
        have H6 := Lib.hid (below_then H5.out hb6 (Nat.le_refl _))
        have HA6 := Lib.hid (sarg_take (sarg_on HA5.out hb6) k)
        have HB6 := Lib.hid (sarg_on HB5.out hb6)
        clear hb6
        have hlk : (ss.take k).length = k := by rw [List.length_take]; omega
        have HE6 := Lib.hid (fun A' c' (e : A' = A) => equal_n A5 A' c5 c' k (ss.take k) w6 hlk HB6.out (by rw [e]; exact HA6.out) (by omega))
        clear hlk
        go_wp2_with fail
        refine (HE6.out A c rfl).mono ?_
        rintro e w7 ⟨rfl, hb7⟩
        go_wp2_with fail
        go_ret
        exact ⟨rfl, below_then H6.out hb7 (Nat.le_refl _)⟩

end Go.Proofs.Ytcgojpdgcoddnaa
