/- The law WireCut. -/
import Derived.Test.YteandcpjadmgcaaWireNumbers
import Derived.Test.YteandcpjadmgcaaWireRdTexts
import Derived.Test.YteandcpjadmgcaaWireCutMath
namespace Go.Proofs.Yteandcpjadmgcaa
open Go.RowKit

theorem total_le_mul (M : Nat) (ss : List ByteArray) (h : ∀ x ∈ ss, x.size ≤ M) : total ss ≤ ss.length * M := by
  induction ss with
  | nil => simp [total]
  | cons a l ih =>
    have h1 := h a (by simp)
    have h2 := ih (fun x hx => h x (by simp [hx]))
    simp only [total, List.map_cons, List.sum_cons, List.length_cons, Nat.add_mul, Nat.one_mul] at *
    omega
theorem total_mem (ss : List ByteArray) (x : ByteArray) (h : x ∈ ss) : x.size ≤ total ss := by
  induction ss with
  | nil => simp at h
  | cons a l ih =>
    simp only [total, List.map_cons, List.sum_cons] at *
    rcases List.mem_cons.1 h with rfl | h
    · omega
    · have := ih h; omega
theorem lists_mem {ss : List ByteArray} {N : Nat} (h : ∀ x ∈ ss, x.size ≤ N) : ∀ t ∈ lists ss, t.length ≤ N := by
  intro t ht
  obtain ⟨x, hx, rfl⟩ := List.mem_map.1 ht
  exact h x hx

theorem texts_len (ss : List ByteArray) : (WM.texts (lists ss)).length = 4 + 4 * ss.length + total ss := by
  rw [← sofar_all, sofar_len ss _ (Nat.le_refl _), List.take_length]

set_option maxRecDepth 100000 in
set_option maxHeartbeats 8000000 in
theorem wireCut_walk (s : ByteArray) (A : Option Addr) (cap : Nat) (ss : List ByteArray) (n : Int) (w : World) (h0 : s.size ≤ 140737488355327)
    (ha : SArg w w.heap.size A ss) (hss : ∀ x ∈ ss, x.size ≤ 140737488355327) (hn : ss.length ≤ 8796093022207) (h2 : -9223372036854775808 ≤ n ∧ n ≤ 9223372036854775807) :
    Calls Try.prog 4 #[.string s, .slice A ss.length cap, .int .i64 n] w fun e w' => e = .returned (.bool true) ∧ Below w.heap.size w w' := by
  go_enter Try.func4, Try.ntmps4
  go_wp2_with fail
  refine (works_true w).mono ?_
  rintro e w1 ⟨rfl, hb1⟩
  have ha1 := ha.on hb1
  by_cases hmany : 1024 < ss.length
  · have hd : decide (1024 < (ss.length : Int)) = true := by simp; omega
    go_wp2_with fail
    go_loop [7, 9, 23] (fun al _ i => ∃ (k : Nat) (z : Int), k ≤ ss.length ∧ i = .int .i64 k ∧ al = .int .i64 z) (fun _ _ i => ss.length - (intOf i).toNat)
    case atStart => exact ⟨0, _, by omega, rfl, rfl⟩
    case round =>
      obtain ⟨k, z, hk, rfl, rfl⟩ := hrel
      by_cases hlt : k < ss.length
      · obtain ⟨ad, rfl, hadb, hcell⟩ := ha1.at_ hlt
        have hsz := hss _ (List.getElem_mem hlt)
        clear ha ha1 hss
        have hlt2 : (k : Int) < ss.length := by omega
        generalize hsk : ss[k] = x at *
        clear hsk
        go_wp2_with fail
        go_round
        case rel => exact ⟨k + 1, _, by omega, by go_num, rfl⟩
        case measure => simp [intOf]; omega
      · clear ha ha1 hss
        go_wp2_with fail
        all_goals (go_ret; exact ⟨rfl, hb1⟩)
  · have hd : decide (1024 < (ss.length : Int)) = false := by simp; omega
    have hmax := total_le_mul _ ss hss
    have hmax2 : total ss ≤ 1024 * 140737488355327 := Nat.le_trans hmax (Nat.mul_le_mul_right _ (by omega))
    clear hmax
    go_wp2_with fail
    go_loop [7, 9, 23] (fun al _ i => ∃ (k : Nat), k ≤ ss.length ∧ i = .int .i64 k ∧ al = .int .i64 ((s.size + total (ss.take k) : Nat) : Int)) (fun _ _ i => ss.length - (intOf i).toNat)
    case atStart => exact ⟨0, by omega, rfl, by simp [total]⟩
    case round =>
      obtain ⟨k, hk, rfl, rfl⟩ := hrel
      by_cases hlt : k < ss.length
      · obtain ⟨ad, rfl, hadb, hcell⟩ := ha1.at_ hlt
        have hle := total_at_le ss k hlt
        have HS := Lib.hid (total_snoc ss k hlt)
        clear ha ha1 hss
        have hlt2 : (k : Int) < ss.length := by omega
        generalize hsk : ss[k] = x at *
        clear hsk
        generalize total (ss.take k) = T at *
        go_wp2_with fail
        go_round
        case rel => exact ⟨k + 1, by omega, by go_num, by rw [HS.out]; go_num⟩
        case measure => simp [intOf]; omega
      · have hke : k = ss.length := by omega
        subst hke
        rw [List.take_length]
        have HB1 := Lib.hid hb1
        by_cases hall : 16384 < s.size + total ss
        · have hd1 : decide (16384 < ((s.size + total ss : Nat) : Int)) = true := by simp; omega
          have hd2 : decide ((16384 : Int) < (s.size : Int) + (total ss : Nat)) = true := by simp; omega
          clear ha ha1 hss
          go_wp2_with fail
          go_ret
          exact ⟨rfl, hb1⟩
        have hd1 : decide (16384 < ((s.size + total ss : Nat) : Int)) = false := by simp; omega
        have hd2 : decide ((16384 : Int) < (s.size : Int) + (total ss : Nat)) = false := by simp; omega
        have HA := Lib.hid ha; have HA1 := Lib.hid ha1; have HSS := Lib.hid hss; clear ha ha1 hss
        go_wp2_with fail
        refine (wireText_any s w1 (by omega)).mono ?_
        rintro e w2 ⟨rfl, hb2⟩
        have HT := Lib.hid (wireTexts_any A cap ss w2 (HA1.out.on hb2) (by omega) (by omega))
        go_wp2_with fail
        refine HT.out.mono ?_
        rintro e w3 ⟨rfl, hb3⟩
        have hb3' := HB1.out.trans ((hb2.trans (hb3.mono hb2.size)).mono HB1.out.size)
        have HB3 := Lib.hid hb3'
        clear hb1 HB1 hb2 hb3 HT hb3'
        have z1 : (bs (WM.text s.data.toList)).size = 4 + s.size := by rw [bs_size]; simp [WM.text, WM.be_len]
        have z2 : (bs (WM.texts (lists ss))).size = 4 + 4 * ss.length + total ss := by rw [bs_size, texts_len]
        have hcat := bs_append (WM.text s.data.toList) (WM.texts (lists ss))
        have hzz : (bs (WM.text s.data.toList)).size + (bs (WM.texts (lists ss))).size ≤ 100000 := by omega
        have Z1 := Lib.hid z1; have Z2 := Lib.hid z2; clear z1 z2
        generalize ht1 : bs (WM.text s.data.toList) = t at *
        generalize ht2 : bs (WM.texts (lists ss)) = u at *
        by_cases hn0 : n < 0
        · have e1 : decide (n < 0) = true := by simp; omega
          clear hcat
          go_wp2_with fail
          go_ret
          exact ⟨rfl, HB3.out⟩
        obtain ⟨m, rfl⟩ : ∃ m : Nat, n = m := ⟨n.toNat, by omega⟩
        have e1 : decide ((m : Int) < 0) = false := by simp
        have HC := Lib.hid hcat; have HT1 := Lib.hid ht1; have HT2 := Lib.hid ht2
        clear hcat ht1 ht2 hd1 hd2 hn0 h2
        by_cases hbig : t.size + u.size ≤ m
        · have e2 : decide ((t.size : Int) + u.size ≤ (m : Int)) = true := by simp; omega
          go_wp2_with fail
          go_ret
          exact ⟨rfl, HB3.out⟩
        have e2 : decide ((t.size : Int) + u.size ≤ (m : Int)) = false := by simp; omega
        have e4 : (m : Int) ≤ (t.size : Int) + u.size := by omega
        have e5 : m ≤ t.size + u.size := by omega
        have hX : ((t ++ u).extract 0 m).data.toList = (WM.text s.data.toList ++ WM.texts (lists ss)).take m := by
          rw [Lib.extract_data, HC.out]
          simp [bs_list]
        go_wp2_with fail
        have hXs : ((t ++ u).extract 0 m).size ≤ 100000 := by rw [ByteArray.size_extract, ByteArray.size_append]; omega
        generalize (t ++ u).extract 0 m = X at *
        refine (new_any X w3 w.heap.size HB3.out.size).mono ?_
        rintro e w4 ⟨g, rfl, hg, hr, hb4⟩
        have hb4' := below_then HB3.out hb4 (Nat.le_refl _)
        have hTx := rdText_any g s.size X (.ok 0) w4 hr (by omega)
        have HA4 := Lib.hid (HA.out.on hb4')
        have HB4 := Lib.hid hb4'
        have ht1 : (WM.text s.data.toList).length = t.size := by rw [← bs_size, HT1.out]
        have hu1 : (WM.texts (lists ss)).length = u.size := by rw [← bs_size, HT2.out]
        have hs4 : s.data.toList.length < 256 ^ 4 := by show s.size < _; omega
        clear hr hb4 hb4' HA HA1 HB3
        by_cases hlt1 : m < t.size
        · have hcut := WM.cut_first s.data.toList (WM.texts (lists ss)) m hs4 (by omega)
          rw [← hX] at hcut
          rw [show WM.textR X.data.toList (s.size : Nat) (.ok 0) = ([], .bad 7 0) from hcut] at hTx
          have HTx := Lib.hid hTx
          have e6 : decide ((m : Int) < t.size) = true := by simp; omega
          clear hTx hcut hX ht1 hu1 hs4
          go_wp2_with fail
          refine HTx.out.mono ?_
          rintro e w5 ⟨rfl, hr5, hg5⟩
          have HFa := Lib.hid (rdFault_any g X _ w5 hr5)
          have HB5 := Lib.hid (below_only' HB4.out hg5 (Nat.le_refl _) hg)
          clear hr5 hg5
          go_wp2_with fail
          refine HFa.out.mono ?_
          rintro e w6 ⟨rfl, hb6⟩
          simp only [faultOf]
          go_wp2_with fail
          go_ret
          exact ⟨rfl, below_then HB5.out hb6 (Nat.le_refl _)⟩
        · obtain ⟨hc1, p, hc2, hp1, hp2⟩ := WM.cut_second s.data.toList (lists ss) m ((s.size : Int) + total ss) hs4 (by rw [lists_len]; omega)
            (fun t ht => by
              obtain ⟨x, hx, rfl⟩ := List.mem_map.1 ht
              have := total_mem ss x hx
              have e : x.data.toList.length = x.size := rfl
              rw [e]
              exact ⟨by omega, by omega⟩) (by omega) (by rw [List.length_append, ht1, hu1]; omega)
          rw [← hX] at hc1 hc2
          rw [ht1] at hc1 hc2 hp1
          rw [lists_len] at hc2
          rw [show WM.textR X.data.toList (s.size : Nat) (.ok 0) = (s.data.toList, .ok t.size) from hc1] at hTx
          have HTx := Lib.hid hTx
          have HC2 := Lib.hid hc2
          have e6 : decide ((m : Int) < t.size) = false := by simp; omega
          have e7 : (t.size : Int) ≤ p := by omega
          have e8 : (p : Int) ≤ m := by omega
          clear hTx hc1 hc2 hX ht1 hu1 hs4
          go_wp2_with fail
          refine HTx.out.mono ?_
          rintro e w5 ⟨rfl, hr5, hg5⟩
          have hT2 := rdTexts_any g ss.length ((s.size : Int) + total ss) X _ w5 hr5 (by omega)
          rw [HC2.out] at hT2
          have HT2 := Lib.hid hT2
          have HB5 := Lib.hid (below_only' HB4.out hg5 (Nat.le_refl _) hg)
          clear hr5 hg5 hT2
          go_wp2_with fail
          refine HT2.out.mono ?_
          rintro e w6 ⟨A6, c6, ss6, rfl, _, _, hr6, hg6⟩
          have HFa := Lib.hid (rdFault_any g X _ w6 hr6)
          have HB6 := Lib.hid (below_only' HB5.out hg6 (Nat.le_refl _) hg)
          have HR6 := Lib.hid hr6
          clear hr6 hg6
          go_wp2_with fail
          refine HFa.out.mono ?_
          rintro e w7 ⟨rfl, hb7⟩
          simp only [faultOf]
          have HB7 := Lib.hid (below_then HB6.out hb7 (Nat.le_refl _))
          have HR7 := Lib.hid (HR6.out.below hb7)
          clear hb7 HFa HR6
          go_wp2_with fail
          refine (rdRest_any g X (.bad 7 p) _ (HR7.out.below (below_new w7 _)) (by omega)).mono ?_
          rintro e w8 ⟨rfl, hb8⟩
          have HR8 := Lib.hid ((HR7.out.below (below_new w7 _)).below hb8)
          have HB8 := Lib.hid (below_then (below_then HB7.out (below_new w7 _) (Nat.le_refl _)) hb8 (Nat.le_refl _))
          simp only [restOf]
          clear hb8
          go_wp2_with fail
          refine (rdU8_any g X _ w8 HR8.out (by omega)).mono ?_
          rintro e w9 ⟨rfl, hr9, hg9⟩
          simp only [WM.num]
          have HB9 := Lib.hid (below_only' HB8.out hg9 (Nat.le_refl _) hg)
          clear hr9 hg9
          go_wp2_with fail
          go_ret
          exact ⟨rfl, HB9.out⟩

end Go.Proofs.Yteandcpjadmgcaa
