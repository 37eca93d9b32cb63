/- The law WireBack. -/
import Derived.Test.YteandcpjadmgcaaWireCut
namespace Go.Proofs.Yteandcpjadmgcaa
open Go.RowKit

theorem lists_bs (ss : List ByteArray) : (lists ss).map bs = ss := by
  simp only [lists, List.map_map]
  conv => rhs; rw [← List.map_id ss]
  rfl

set_option maxRecDepth 100000 in
set_option maxHeartbeats 8000000 in
theorem wireBack_walk (a b c : Nat) (s : ByteArray) (A : Option Addr) (cap : Nat) (ss : List ByteArray) (rest : ByteArray) (w : World) (h0 : a < 256) (h1 : b < 4294967296) (h2 : c < 18446744073709551616) (h3 : s.size ≤ 140737488355327)
    (ha : SArg w w.heap.size A ss) (hss : ∀ x ∈ ss, x.size ≤ 140737488355327) (hn : ss.length ≤ 8796093022207) (h5 : rest.size ≤ 140737488355327) :
    Calls Try.prog 7 #[.int .u8 a, .int .u32 b, .int .u64 c, .string s, .slice A ss.length cap, .string rest] w fun e w' => e = .returned (.bool true) ∧ Below w.heap.size w w' := by
  go_enter Try.func7, Try.ntmps7
  go_wp2_with fail
  refine (works_true w).mono ?_
  rintro e w1 ⟨rfl, hb1⟩
  have ha1 := ha.on hb1
  by_cases hmany : 1024 < ss.length
  · have hd : decide (1024 < (ss.length : Int)) = true := by simp; omega
    go_wp2_with fail
    go_loop [13, 15, 28] (fun al _ i => ∃ (k : Nat) (z : Int), k ≤ ss.length ∧ i = .int .i64 k ∧ al = .int .i64 z) (fun _ _ i => ss.length - (intOf i).toNat)
    case atStart => exact ⟨0, _, by omega, rfl, rfl⟩
    case round =>
      obtain ⟨k, z, hk, rfl, rfl⟩ := hrel
      by_cases hlt : k < ss.length
      · obtain ⟨ad, rfl, hadb, hcell⟩ := ha1.at_ hlt
        have hsz := hss _ (List.getElem_mem hlt)
        clear ha ha1 hss
        have hlt2 : (k : Int) < ss.length := by omega
        generalize hsk : ss[k] = x at *
        clear hsk
        go_wp2_with fail
        go_round
        case rel => exact ⟨k + 1, _, by omega, by go_num, rfl⟩
        case measure => simp [intOf]; omega
      · clear ha ha1 hss
        go_wp2_with fail
        all_goals (go_ret; exact ⟨rfl, hb1⟩)
  · have hd : decide (1024 < (ss.length : Int)) = false := by simp; omega
    have hmax := total_le_mul _ ss hss
    have hmax2 : total ss ≤ 1024 * 140737488355327 := Nat.le_trans hmax (Nat.mul_le_mul_right _ (by omega))
    clear hmax
    go_wp2_with fail
    go_loop [13, 15, 28] (fun al _ i => ∃ (k : Nat), k ≤ ss.length ∧ i = .int .i64 k ∧ al = .int .i64 ((s.size + total (ss.take k) : Nat) : Int)) (fun _ _ i => ss.length - (intOf i).toNat)
    case atStart => exact ⟨0, by omega, rfl, by simp [total]⟩
    case round =>
      obtain ⟨k, hk, rfl, rfl⟩ := hrel
      by_cases hlt : k < ss.length
      · obtain ⟨ad, rfl, hadb, hcell⟩ := ha1.at_ hlt
        have hle := total_at_le ss k hlt
        have HS := Lib.hid (total_snoc ss k hlt)
        clear ha ha1 hss
        have hlt2 : (k : Int) < ss.length := by omega
        generalize hsk : ss[k] = x at *
        clear hsk
        generalize total (ss.take k) = T at *
        go_wp2_with fail
        go_round
        case rel => exact ⟨k + 1, by omega, by go_num, by rw [HS.out]; go_num⟩
        case measure => simp [intOf]; omega
      · have hke : k = ss.length := by omega
        subst hke
        rw [List.take_length]
        have HB1 := Lib.hid hb1
        by_cases hall : 65536 < s.size + total ss
        · have hd2 : decide ((65536 : Int) < (s.size : Int) + (total ss : Nat)) = true := by simp; omega
          clear ha ha1 hss
          go_wp2_with fail
          go_ret
          exact ⟨rfl, hb1⟩
        have hd2 : decide ((65536 : Int) < (s.size : Int) + (total ss : Nat)) = false := by simp; omega
        by_cases hrest : 65536 < rest.size
        · have hd3 : decide ((65536 : Int) < (rest.size : Int)) = true := by simp; omega
          clear ha ha1 hss
          go_wp2_with fail
          go_ret
          exact ⟨rfl, hb1⟩
        have hd3 : decide ((65536 : Int) < (rest.size : Int)) = false := by simp; omega
        have HA1 := Lib.hid ha1; have HA := Lib.hid ha; clear ha ha1 hss
        obtain ⟨o, r, hmod, hro⟩ : ∃ (o : Bool) (r : Int), (a : Int) % 2 = r ∧ (r == 1) = o := ⟨_, _, rfl, rfl⟩
        go_wp2_with fail
        refine (wireText_any s w1 (by omega)).mono ?_
        rintro e w2 ⟨rfl, hb2⟩
        have HT := Lib.hid (wireTexts_any A cap ss w2 (HA1.out.on hb2) (by omega) (by omega))
        have z1 : (bs (WM.text s.data.toList)).size ≤ 100000 := by rw [bs_size]; simp [WM.text, WM.be_len]; have : s.data.toList.length = s.size := rfl; omega
        obtain ⟨t, HX1⟩ : ∃ t, Hid (bs (WM.text s.data.toList) = t) := ⟨_, Lib.hid rfl⟩
        rw [HX1.out] at z1 ⊢
        go_wp2_with fail
        refine HT.out.mono ?_
        rintro e w3 ⟨rfl, hb3⟩
        have hc3 := hb2.trans (hb3.mono hb2.size)
        clear hb1 hb2 hb3 HT
        have z2 : (bs (WM.texts (lists ss))).size ≤ 100000 := by rw [bs_size, texts_len]; omega
        obtain ⟨u, HX2⟩ : ∃ t, Hid (bs (WM.texts (lists ss)) = t) := ⟨_, Lib.hid rfl⟩
        rw [HX2.out] at z2 ⊢
        go_wp2_with fail
        refine (wireU8_any a w3 (by omega) (by omega)).mono ?_
        rintro e w4 ⟨rfl, hb4⟩
        simp only [Int.toNat_natCast]
        have hc4 := hc3.trans (hb4.mono hc3.size)
        clear hc3 hb4
        have z3 : (bs (WM.be 1 a)).size ≤ 100000 := by rw [bs_size, WM.be_len]; omega
        obtain ⟨x3, HX3⟩ : ∃ t, Hid (bs (WM.be 1 a) = t) := ⟨_, Lib.hid rfl⟩
        rw [HX3.out] at z3 ⊢
        go_wp2_with fail
        refine (wireBool_any o w4).mono ?_
        rintro e w5 ⟨rfl, hb5⟩
        have hc5 := hc4.trans (hb5.mono hc4.size)
        clear hc4 hb5
        have z4 : (bs (WM.be 1 (if o then 1 else 0))).size ≤ 100000 := by rw [bs_size, WM.be_len]; omega
        obtain ⟨x4, HX4⟩ : ∃ t, Hid (bs (WM.be 1 (if o then 1 else 0)) = t) := ⟨_, Lib.hid rfl⟩
        rw [HX4.out] at z4 ⊢
        go_wp2_with fail
        refine (wireU32_any b w5 (by omega) (by omega)).mono ?_
        rintro e w6 ⟨rfl, hb6⟩
        simp only [Int.toNat_natCast]
        have hc6 := hc5.trans (hb6.mono hc5.size)
        clear hc5 hb6
        have z5 : (bs (WM.be 4 b)).size ≤ 100000 := by rw [bs_size, WM.be_len]; omega
        obtain ⟨x5, HX5⟩ : ∃ t, Hid (bs (WM.be 4 b) = t) := ⟨_, Lib.hid rfl⟩
        rw [HX5.out] at z5 ⊢
        go_wp2_with fail
        refine (wireU64_any c w6 (by omega) (by omega)).mono ?_
        rintro e w7 ⟨rfl, hb7⟩
        simp only [Int.toNat_natCast]
        have hc7 := hc6.trans (hb7.mono hc6.size)
        clear hc6 hb7
        have z6 : (bs (WM.be 8 c)).size ≤ 100000 := by rw [bs_size, WM.be_len]; omega
        obtain ⟨x6, HX6⟩ : ∃ t, Hid (bs (WM.be 8 c) = t) := ⟨_, Lib.hid rfl⟩
        rw [HX6.out] at z6 ⊢
        go_wp2_with fail
        have hsz : (x3 ++ u ++ x4 ++ x5 ++ t ++ x6 ++ rest).size ≤ 1000000 := by simp only [ByteArray.size_append]; omega
        have hX : (x3 ++ u ++ x4 ++ x5 ++ t ++ x6 ++ rest).data.toList = WM.be 1 a ++ WM.texts (lists ss) ++ WM.be 1 (if o then 1 else 0) ++ WM.be 4 b ++ WM.text s.data.toList ++ WM.be 8 c ++ rest.data.toList := by
          rw [← HX1.out, ← HX2.out, ← HX3.out, ← HX4.out, ← HX5.out, ← HX6.out]
          simp [bs_list]
        obtain ⟨p1, p2, p3, p4, p5, p6, q1, q2, q3, q4, q5, q6, q7, q8⟩ := WM.back_all a b c o s.data.toList rest.data.toList (lists ss) ((s.size : Int) + total ss) (by omega) (by omega) (by omega)
          (by show s.size < _; omega) (by rw [lists_len]; omega) (fun t ht => by
              obtain ⟨x, hx, rfl⟩ := List.mem_map.1 ht
              have := total_mem ss x hx
              have e : x.data.toList.length = x.size := rfl
              rw [e]
              exact ⟨by omega, by omega⟩) _ hX
        generalize x3 ++ u ++ x4 ++ x5 ++ t ++ x6 ++ rest = X at *
        have HW := Lib.hid (HB1.out.trans (hc7.mono HB1.out.size))
        clear hc7 HB1 HA1 HX1 HX2 HX3 HX4 HX5 HX6 z1 z2 z3 z4 z5 z6 hX hmod hro
        refine (new_any X w7 w.heap.size HW.out.size).mono ?_
        rintro e w8 ⟨g, rfl, hg, hr, hb8⟩
        have H8 := rdU8_any g X (.ok 0) w8 hr (by omega)
        rw [q1] at H8
        have HC := Lib.hid H8
        have HW8 := Lib.hid (below_then HW.out hb8 (Nat.le_refl _))
        have Q := Lib.hid (And.intro q2 (And.intro q3 (And.intro q4 (And.intro q5 (And.intro q6 (And.intro q7 q8))))))
        clear H8 q1 q2 q3 q4 q5 q6 q7 q8 hb8 hr HW
        go_wp2_with fail
        refine HC.out.mono ?_
        rintro e w9 ⟨rfl, hr9, hg9⟩
        have H9 := rdTexts_any g ss.length ((s.size : Int) + total ss) X (.ok p1) w9 hr9 (by omega)
        rw [show (ss.length : Int) = (lists ss).length from by rw [lists_len], Q.out.1, lists_len] at H9
        have HC9 := Lib.hid H9
        have HW9 := Lib.hid (below_only' HW8.out hg9 (Nat.le_refl _) hg)
        clear H9 hr9 hg9 HC
        go_wp2_with fail
        refine HC9.out.mono ?_
        rintro e w10 ⟨A', c', ss', rfl, hss', ha', hr10, hg10⟩
        rw [lists_bs] at hss'
        subst hss'
        have HW10 := Lib.hid (below_only' HW9.out hg10 (Nat.le_refl _) hg)
        have HE := Lib.hid (equal_true A' A c' cap ss' w10 ha' ((HA.out.below HW10.out (Nat.le_refl _)).wide HW10.out.size) (by omega))
        have HR10 := Lib.hid hr10
        clear hr10 hg10 ha' HC9
        go_wp2_with fail
        refine HE.out.mono ?_
        rintro e w11 ⟨rfl, hb11⟩
        have H11 := rdBool_any g X (.ok p2) w11 (HR10.out.below hb11) (by omega)
        rw [Q.out.2.1] at H11
        have HC11 := Lib.hid H11
        have HW11 := Lib.hid (below_then HW10.out hb11 (Nat.le_refl _))
        clear H11 hb11 HE HR10
        go_wp2_with fail
        refine HC11.out.mono ?_
        rintro e w12 ⟨rfl, hr12, hg12⟩
        have H12 := rdU32_any g X (.ok p3) w12 hr12 (by omega)
        rw [Q.out.2.2.1] at H12
        have HC12 := Lib.hid H12
        have HW12 := Lib.hid (below_only' HW11.out hg12 (Nat.le_refl _) hg)
        clear H12 hr12 hg12 HC11
        go_wp2_with fail
        refine HC12.out.mono ?_
        rintro e w13 ⟨rfl, hr13, hg13⟩
        have H13 := rdText_any g s.size X (.ok p4) w13 hr13 (by omega)
        rw [show (s.size : Int) = (s.data.toList.length : Int) from rfl, Q.out.2.2.2.1] at H13
        have HC13 := Lib.hid H13
        have HW13 := Lib.hid (below_only' HW12.out hg13 (Nat.le_refl _) hg)
        clear H13 hr13 hg13 HC12
        go_wp2_with fail
        refine HC13.out.mono ?_
        rintro e w14 ⟨rfl, hr14, hg14⟩
        rw [bs_of]
        have H14 := rdU64_any g X (.ok p5) w14 hr14 (by omega)
        rw [Q.out.2.2.2.2.1] at H14
        have HC14 := Lib.hid H14
        have HW14 := Lib.hid (below_only' HW13.out hg14 (Nat.le_refl _) hg)
        clear H14 hr14 hg14 HC13
        go_wp2_with fail
        refine HC14.out.mono ?_
        rintro e w15 ⟨rfl, hr15, hg15⟩
        have HC15 := Lib.hid (rdFault_any g X (.ok p6) w15 hr15)
        have HR15 := Lib.hid hr15
        have HW15 := Lib.hid (below_only' HW14.out hg15 (Nat.le_refl _) hg)
        clear hr15 hg15 HC14
        go_wp2_with fail
        refine HC15.out.mono ?_
        rintro e w16 ⟨rfl, hb16⟩
        simp only [faultOf]
        have HC16 := Lib.hid (rdRest_any g X (.ok p6) w16 (HR15.out.below hb16) (by omega))
        have HR16 := Lib.hid (HR15.out.below hb16)
        have HW16 := Lib.hid (below_then HW15.out hb16 (Nat.le_refl _))
        clear hb16 HC15 HR15
        have hrs : restOf X (.ok p6) = rest := by
          simp only [restOf]
          rw [← bs_of (X.extract p6 X.size), Lib.extract_data]
          rw [show X.data.toList.drop p6 = rest.data.toList from Q.out.2.2.2.2.2.2]
          have h7 := Q.out.2.2.2.2.2.1
          have e1 : X.data.toList.length = X.size := rfl
          rw [List.take_of_length_le (by omega), bs_of]
        rw [hrs] at HC16
        clear hrs
        go_wp2_with fail
        refine HC16.out.mono ?_
        rintro e w17 ⟨rfl, hb17⟩
        have HC17 := Lib.hid (rdEnd_any g X (.ok p6) w17 (HR16.out.below hb17) (by omega))
        have HW17 := Lib.hid (below_then HW16.out hb17 (Nat.le_refl _))
        clear hb17 HC16 HR16
        go_wp2_with fail
        refine HC17.out.mono ?_
        rintro e w18 ⟨rfl, hb18⟩
        have HW18 := Lib.hid (below_then HW17.out hb18 (Nat.le_refl _))
        clear hb18 HC17
        simp only [endOf]
        have h7 := Q.out.2.2.2.2.2.1
        rw [show rest.data.toList.length = rest.size from rfl, show X.data.toList.length = X.size from rfl] at h7
        by_cases hz : rest.size = 0
        · obtain rfl : rest = ByteArray.empty := ByteArray.ext (Array.eq_empty_of_size_eq_zero hz)
          rw [if_neg (by omega)]
          clear h7
          go_wp2_with fail
          go_ret
          exact ⟨rfl, HW18.out⟩
        · have e1 : rest.toList.isEmpty = false := by
            rw [ByteArray.toList_eq]
            cases hl : rest.data.toList with
            | nil => exact absurd (show rest.size = 0 from by rw [show rest.size = rest.data.toList.length from rfl, hl]; rfl) hz
            | cons _ _ => rfl
          rw [if_pos (by omega)]
          clear h7
          go_wp2_with fail
          go_ret
          exact ⟨rfl, HW18.out⟩

end Go.Proofs.Yteandcpjadmgcaa
