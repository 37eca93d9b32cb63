/- PatternBack: patterns and their texts are there and back. -/
import Derived.Test.YtlfhjmdbkifciaaPatPrint
import Derived.Test.YtlfhjmdbkifciaaPatUnquotes
namespace Go.Proofs.Ytlfhjmdbkifciaa
open Go.RowKit PM

theorem neq_pat (k : Int) (s : ByteArray) (w : World) : (binOp .neq TPat (.agg #[.int .i64 k, .string s]) (.agg #[.int .i64 k, .string s])).run Try.prog w = .ok (.bool false) w := by
  rw [run_neq_struct]
  simp [go_sem]
theorem eq_zpat (w : World) : (binOp .eql TPat (.agg #[.int .i64 0, .string ⟨#[]⟩]) (.agg #[.int .i64 0, .string ⟨#[]⟩])).run Try.prog w = .ok (.bool true) w := by kernel_rfl
theorem neq_spot' (w : World) : (binOp .neq TSp (.agg #[.int .i64 0, .int .i64 0]) (.agg #[.int .i64 0, .int .i64 0])).run Try.prog w = .ok (.bool false) w := by kernel_rfl
theorem printL_pos (k : Nat) (s : List UInt8) : 0 < (bs (printL k s)).size := by rw [bs_sz]; simp [printL, quote]; omega
theorem tree_kind {kind : Int} {s : List UInt8} {t : T} (ht : tree kind s = .ok t) : (kind = 1 ∨ kind = 2 ∨ kind = 3) ∧ s.length ≤ 64 := by
  unfold tree at ht
  split at ht
  · cases ht
  · split at ht
    · cases ht
    · exact ⟨by omega, by omega⟩
theorem printL_len {k : Nat} (s : List UInt8) (hs : s.length ≤ 64) : (bs (printL k s)).size ≤ 1000 := by
  rw [bs_sz]
  have h1 := signs_len4 s
  have h2 : (wordW k).length ≤ 5 := by unfold wordW; split; · decide
                                       split; · decide
                                       simp
  simp [printL, quote]; omega

set_option maxRecDepth 100000 in
set_option maxHeartbeats 16000000 in
theorem patternBack_walk (kind : Int) (s text : ByteArray) (w : World) (h1 : s.size ≤ 140737488355328) (h2 : text.size ≤ 140737488355328) :
    Calls Try.prog 11 #[.agg #[.int .i64 kind, .string s], .string text] w fun e w' => e = .returned (.bool true) ∧ Below w.heap.size w w' := by
  have hB := heap_alloc_new w (.cells #[.int .i64 kind, .string s] TPat)
  have HB := Lib.hid hB; have H0 := Lib.hid (below_new w (.cells #[.int .i64 kind, .string s] TPat))
  clear hB
  go_enter Try.func11, Try.ntmps11
  go_wp2_with fail
  generalize w.alloc (.cells #[.int .i64 kind, .string s] TPat) = w0 at *
  generalize hb0 : w.heap.size = b0 at HB ⊢
  refine (works_any w0).mono ?_
  rintro e w1 ⟨rfl, hb⟩
  have H1 := Lib.hid (below_then H0.out hb (Nat.le_refl _))
  have HB1 := Lib.hid ((hb.block _ (lt_of_block HB.out)).trans HB.out)
  have c0 : w1.cell? ⟨b0, 0, none⟩ = some (.int .i64 kind) := by rw [cell_of_row _ _ _ _ _ _ HB1.out]; rfl
  have c1 : w1.cell? ⟨b0, 1, none⟩ = some (.string s) := by rw [cell_of_row _ _ _ _ _ _ HB1.out]; rfl
  clear hb HB H0
  go_wp2_with fail
  have hL := long_any (s.size + text.size) w1
  rw [Int.natCast_add] at hL
  refine hL.mono ?_
  rintro e w2 ⟨rfl, rfl⟩
  clear hL
  by_cases hl : 65536 < s.size + text.size
  · rw [show decide (65536 < s.size + text.size) = true by simpa using hl]
    clear c0 c1
    go_wp2_with fail
    go_ret
    exact ⟨rfl, hb0 ▸ H1.out⟩
  rw [show decide (65536 < s.size + text.size) = false by simpa using hl]
  go_wp2_with fail
  clear c0 c1
  refine (tree_or kind s w2 (by omega)).mono ?_
  rintro e w3 (⟨t, A, c, ht, rfl, hK, hb⟩ | ⟨x, k, hx, hno, rfl, hb⟩)
  · obtain ⟨hk, hl64⟩ := tree_kind ht
    obtain ⟨k, rfl⟩ : ∃ k : Nat, kind = k := ⟨kind.toNat, by omega⟩
    replace hk : k = 1 ∨ k = 2 ∨ k = 3 := by omega
    have HP : Hid (printR k s.data.toList = printL k s.data.toList) := Lib.hid (by unfold printR; rw [ht]; rfl)
    have HPP := Lib.hid (parse_print hk ht)
    have H3 := Lib.hid (below_then H1.out hb (Nat.le_refl _))
    have HB3 := Lib.hid ((hb.block _ (lt_of_block HB1.out)).trans HB1.out)
    clear ht hb H1 HB1 hk
    go_upto_region 6 with (fail)
    obtain ⟨hA, hAB⟩ := TrAt.made hK
    have HA := Lib.hid hA; have H4 := Lib.hid (below_then H3.out hAB (Nat.le_refl _))
    have HB4 := Lib.hid ((hAB.block _ (lt_of_block HB3.out)).trans HB3.out)
    clear hA hAB hK H3 HB3
    generalize (w3.alloc (.cells #[.int .i64 t.op, .int .u64 (word t.set 0), .int .u64 (word t.set 1), .int .u64 (word t.set 2), .int .u64 (word t.set 3), .slice A t.kids.length c] TN)).alloc (.cells #[.int .i64 0, .int .i64 0] TSp) = w4 at *
    generalize w3.heap.size = B at *
    have c0 : w4.cell? ⟨b0, 0, none⟩ = some (.int .i64 k) := by rw [cell_of_row _ _ _ _ _ _ HB4.out]; rfl
    have c1 : w4.cell? ⟨b0, 1, none⟩ = some (.string s) := by rw [cell_of_row _ _ _ _ _ _ HB4.out]; rfl
    go_wp2_with fail
    clear c0 c1
    refine (print_any k s w4 (by omega)).mono ?_
    rintro e w5 ⟨rfl, hb⟩
    rw [HP.out]
    have H5 := Lib.hid (below_then H4.out hb (Nat.le_refl _))
    have HB5 := Lib.hid ((hb.block _ (lt_of_block HB4.out)).trans HB4.out)
    have r0 := (HA.out.on hb).err.1
    obtain ⟨e1, e2, e3⟩ := empty_yes (printL_pos k s.data.toList)
    have hlen := printL_len (k := k) s.data.toList hl64
    have HS : Hid ((bs (printL k s.data.toList)).data.toList = printL k s.data.toList) := Lib.hid rfl
    generalize bs (printL k s.data.toList) = S at *
    clear hb H4 HB4 HA HP
    go_wp2_with fail
    refine (parse_any S w5 (by omega)).mono ?_
    rintro e w6 ⟨rfl, hb⟩
    rw [HS.out, HPP.out]
    simp only [parseV, spotV, spotC, bs_of]
    have H6 := Lib.hid (below_then H5.out hb (Nat.le_refl _))
    have HB6 := Lib.hid ((hb.block _ (lt_of_block HB5.out)).trans HB5.out)
    clear hb H5 HB5 r0 e1 e2 e3 hlen HS HPP
    go_upto_region 11 with (fail)
    have hn := heap_alloc_new w6 (.cells #[.int .i64 k, .string s] TPat)
    have hs := spot_made w6 (.cells #[.int .i64 k, .string s] TPat) #[.int .i64 0, .int .i64 0]
    have hAB := two_below w6 (.cells #[.int .i64 k, .string s] TPat) (.cells #[.int .i64 0, .int .i64 0] TSp)
    have hn2 := ((below_new (w6.alloc (.cells #[.int .i64 k, .string s] TPat)) (.cells #[.int .i64 0, .int .i64 0] TSp)).block _ (lt_of_block hn)).trans hn
    have HUP := Lib.hid (below_then H6.out hAB (Nat.le_refl _))
    have hB7 := (hAB.block _ (lt_of_block HB6.out)).trans HB6.out
    clear hAB hn H6 HB6
    generalize (w6.alloc (.cells #[.int .i64 k, .string s] TPat)).alloc (.cells #[.int .i64 0, .int .i64 0] TSp) = wz at *
    generalize w6.heap.size = q0 at *
    have c0 : wz.cell? ⟨b0, 0, none⟩ = some (.int .i64 k) := by rw [cell_of_row _ _ _ _ _ _ hB7]; rfl
    have c1 : wz.cell? ⟨b0, 1, none⟩ = some (.string s) := by rw [cell_of_row _ _ _ _ _ _ hB7]; rfl
    have c2 : wz.cell? ⟨q0, 0, none⟩ = some (.int .i64 k) := by rw [cell_of_row _ _ _ _ _ _ hn2]; rfl
    have c3 : wz.cell? ⟨q0, 1, none⟩ = some (.string s) := by rw [cell_of_row _ _ _ _ _ _ hn2]; rfl
    have c4 : wz.cell? ⟨q0 + 1, 0, none⟩ = some (.int .i64 0) := by rw [cell_of_row _ _ _ _ _ _ hs]; rfl
    have c5 : wz.cell? ⟨q0 + 1, 1, none⟩ = some (.int .i64 0) := by rw [cell_of_row _ _ _ _ _ _ hs]; rfl
    have hne := neq_pat k s
    have hne2 := neq_spot'
    clear hn2 hs hB7
    go_wp2_with fail
    clear c0 c1 c2 c3 c4 c5 hne hne2
    refine (parse_any text wz (by omega)).mono ?_
    rintro e w8 ⟨rfl, hb⟩
    have H8 := Lib.hid (below_then HUP.out hb (Nat.le_refl _))
    clear hb HUP
    cases hr : parse text.data.toList with
    | bad er at' =>
      obtain ⟨hat, her⟩ := parse_bad hr
      have hat2 : (at' : Int) ≤ text.size := by have : text.data.toList.length = text.size := rfl; omega
      have hat0 : (0 : Int) ≤ at' := by omega
      have x0 : ((er : Int) != 0) = true := by rw [bne_iff_ne]; omega
      clear hr hat her
      simp only [parseV, spotV, spotC, zP]
      go_upto_region 14 with (fail)
      have hn := heap_alloc_new w8 (.cells #[.int .i64 0, .string ⟨#[]⟩] TPat)
      have hs := spot_made w8 (.cells #[.int .i64 0, .string ⟨#[]⟩] TPat) #[.int .i64 er, .int .i64 at']
      have hAB := two_below w8 (.cells #[.int .i64 0, .string ⟨#[]⟩] TPat) (.cells #[.int .i64 er, .int .i64 at'] TSp)
      have hn2 := ((below_new (w8.alloc (.cells #[.int .i64 0, .string ⟨#[]⟩] TPat)) (.cells #[.int .i64 er, .int .i64 at'] TSp)).block _ (lt_of_block hn)).trans hn
      have H9 := Lib.hid (below_then H8.out hAB (Nat.le_refl _))
      clear hAB hn H8
      generalize (w8.alloc (.cells #[.int .i64 0, .string ⟨#[]⟩] TPat)).alloc (.cells #[.int .i64 er, .int .i64 at'] TSp) = w9 at *
      generalize w8.heap.size = q1 at *
      have c2 : w9.cell? ⟨q1, 0, none⟩ = some (.int .i64 0) := by rw [cell_of_row _ _ _ _ _ _ hn2]; rfl
      have c3 : w9.cell? ⟨q1, 1, none⟩ = some (.string ⟨#[]⟩) := by rw [cell_of_row _ _ _ _ _ _ hn2]; rfl
      have c4 : w9.cell? ⟨q1 + 1, 0, none⟩ = some (.int .i64 er) := by rw [cell_of_row _ _ _ _ _ _ hs]; rfl
      have c5 : w9.cell? ⟨q1 + 1, 1, none⟩ = some (.int .i64 at') := by rw [cell_of_row _ _ _ _ _ _ hs]; rfl
      have heq := eq_zpat
      clear hn2 hs
      go_wp2_with fail
      go_ret
      exact ⟨rfl, hb0 ▸ H9.out⟩
    | ok kd o =>
      obtain ⟨hkd, htx, t2, ht2⟩ := parse_read hr
      obtain ⟨_, hol⟩ := tree_kind ht2
      have HT : Hid (bs (printR kd o) = text) := Lib.hid (by unfold printR; rw [ht2]; show bs (printL kd o) = text; rw [← htx]; rfl)
      have HU : Hid (∃ o' er at', unquoteV text = .tuple #[.string o', .agg #[.int .i64 (er : Nat), .int .i64 (at' : Nat)]] ∧ (kd = 1 → o' = bs o ∧ er = 0 ∧ at' = 0)) := Lib.hid (by
        rcases hkd with rfl | hkd
        · refine ⟨bs o, 0, 0, ?_, fun _ => ⟨rfl, rfl, rfl⟩⟩
          have : bs (quote o) = text := by rw [show quote o = text.data.toList from by rw [htx]; rfl]; rfl
          rw [← this, unquote_quote]; rfl
        · obtain ⟨o', er, at', h⟩ := unquoteV_form text
          exact ⟨o', er, at', h, fun e => by omega⟩)
      have HK := Lib.hid hkd
      clear hr hkd htx ht2
      simp only [parseV, spotV, spotC]
      go_upto_region 14 with (fail)
      have hn := heap_alloc_new w8 (.cells #[.int .i64 kd, .string (bs o)] TPat)
      have hs := spot_made w8 (.cells #[.int .i64 kd, .string (bs o)] TPat) #[.int .i64 0, .int .i64 0]
      have hAB := two_below w8 (.cells #[.int .i64 kd, .string (bs o)] TPat) (.cells #[.int .i64 0, .int .i64 0] TSp)
      have hn2 := ((below_new (w8.alloc (.cells #[.int .i64 kd, .string (bs o)] TPat)) (.cells #[.int .i64 0, .int .i64 0] TSp)).block _ (lt_of_block hn)).trans hn
      have H9 := Lib.hid (below_then H8.out hAB (Nat.le_refl _))
      have HQ := Lib.hid hn2; have HS := Lib.hid hs
      clear hAB hn hn2 hs H8
      generalize (w8.alloc (.cells #[.int .i64 kd, .string (bs o)] TPat)).alloc (.cells #[.int .i64 0, .int .i64 0] TSp) = w9 at *
      generalize w8.heap.size = q1 at *
      have c4 : w9.cell? ⟨q1 + 1, 0, none⟩ = some (.int .i64 0) := by rw [cell_of_row _ _ _ _ _ _ HS.out]; rfl
      go_wp2_with fail
      clear c4
      refine (unquote_any text w9 (by omega)).mono ?_
      rintro e w10 ⟨rfl, hb⟩
      obtain ⟨o', er, at', hU, hU1⟩ := HU.out
      rw [hU]
      have HU1 := Lib.hid hU1
      have H10 := Lib.hid (below_then H9.out hb (Nat.le_refl _))
      have HQ2 := Lib.hid ((hb.block _ (lt_of_block HQ.out)).trans HQ.out)
      have HS2 := Lib.hid ((hb.block _ (lt_of_block HS.out)).trans HS.out)
      clear hb hU hU1 HU HQ HS H9
      go_upto_region 17 with (fail)
      have hb2 := below_new w10 (.cells #[.int .i64 er, .int .i64 at'] TSp)
      have hu := heap_alloc_new w10 (.cells #[.int .i64 er, .int .i64 at'] TSp)
      have HU := Lib.hid hu
      have H11 := Lib.hid (below_then H10.out hb2 (Nat.le_refl _))
      have HQ3 := Lib.hid ((hb2.block _ (lt_of_block HQ2.out)).trans HQ2.out)
      have HS3 := Lib.hid ((hb2.block _ (lt_of_block HS2.out)).trans HS2.out)
      clear hb2 hu H10 HQ2 HS2
      generalize w10.alloc (.cells #[.int .i64 er, .int .i64 at'] TSp) = w11 at *
      generalize w10.heap.size = q2 at *
      have c2 : w11.cell? ⟨q1, 0, none⟩ = some (.int .i64 kd) := by rw [cell_of_row _ _ _ _ _ _ HQ3.out]; rfl
      have c3 : w11.cell? ⟨q1, 1, none⟩ = some (.string (bs o)) := by rw [cell_of_row _ _ _ _ _ _ HQ3.out]; rfl
      have c5 : w11.cell? ⟨q1 + 1, 1, none⟩ = some (.int .i64 0) := by rw [cell_of_row _ _ _ _ _ _ HS3.out]; rfl
      go_wp2_with fail
      clear c2 c3 c5
      refine (print_any kd (bs o) w11 (by rw [bs_sz]; omega)).mono ?_
      rintro e w12 ⟨rfl, hb⟩
      rw [bs_toList, HT.out]
      have H12 := Lib.hid (below_then H11.out hb (Nat.le_refl _))
      have hq := (hb.block _ (lt_of_block HQ3.out)).trans HQ3.out
      have hu := (hb.block _ (lt_of_block HU.out)).trans HU.out
      have c2 : w12.cell? ⟨q1, 0, none⟩ = some (.int .i64 kd) := by rw [cell_of_row _ _ _ _ _ _ hq]; rfl
      have c3 : w12.cell? ⟨q1, 1, none⟩ = some (.string (bs o)) := by rw [cell_of_row _ _ _ _ _ _ hq]; rfl
      by_cases hk1 : kd = 1
      · obtain ⟨rfl, rfl, rfl⟩ := HU1.out hk1
        subst hk1
        have c6 : w12.cell? ⟨q2, 0, none⟩ = some (.int .i64 0) := by rw [cell_of_row _ _ _ _ _ _ hu]; rfl
        have c7 : w12.cell? ⟨q2, 1, none⟩ = some (.int .i64 0) := by rw [cell_of_row _ _ _ _ _ _ hu]; rfl
        have heq := eq_spot
        clear hb hq hu H11 HQ3 HS3 HU HU1 HT HK
        go_wp2_with fail
        go_ret
        exact ⟨rfl, hb0 ▸ H12.out⟩
      · have x0 : ((kd : Int) != 1) = true := by rw [bne_iff_ne]; omega
        clear hb hq hu H11 HQ3 HS3 HU HU1 HT HK hk1
        go_wp2_with fail
        go_ret
        exact ⟨rfl, hb0 ▸ H12.out⟩
  · have HP : Hid (printR kind s.data.toList = []) := Lib.hid (by
      unfold printR
      split
      · rename_i t h; exact absurd h (hno t)
      · rfl)
    have H3 := Lib.hid (below_then H1.out hb (Nat.le_refl _))
    have HB3 := Lib.hid ((hb.block _ (lt_of_block HB1.out)).trans HB1.out)
    have HX := Lib.hid hx
    clear hb hx H1 HB1 hno
    go_upto_region 6 with (fail)
    have hs := spot_made w3 (.cells #[.int .i64 0, .int .u64 0, .int .u64 0, .int .u64 0, .int .u64 0, .slice none 0 0] TN) #[.int .i64 x, .int .i64 k]
    have hAB := two_below w3 (.cells #[.int .i64 0, .int .u64 0, .int .u64 0, .int .u64 0, .int .u64 0, .slice none 0 0] TN) (.cells #[.int .i64 x, .int .i64 k] TSp)
    have H4 := Lib.hid (below_then H3.out hAB (Nat.le_refl _))
    have HB4 := Lib.hid ((hAB.block _ (lt_of_block HB3.out)).trans HB3.out)
    have HS := Lib.hid hs
    clear hAB H3 HB3 hs
    generalize (w3.alloc (.cells #[.int .i64 0, .int .u64 0, .int .u64 0, .int .u64 0, .int .u64 0, .slice none 0 0] TN)).alloc (.cells #[.int .i64 x, .int .i64 k] TSp) = w4 at *
    generalize w3.heap.size = B at *
    have c0 : w4.cell? ⟨b0, 0, none⟩ = some (.int .i64 kind) := by rw [cell_of_row _ _ _ _ _ _ HB4.out]; rfl
    have c1 : w4.cell? ⟨b0, 1, none⟩ = some (.string s) := by rw [cell_of_row _ _ _ _ _ _ HB4.out]; rfl
    go_wp2_with fail
    clear c0 c1
    refine (print_any kind s w4 (by omega)).mono ?_
    rintro e w5 ⟨rfl, hb⟩
    rw [HP.out]
    have HUP := Lib.hid (below_then H4.out hb (Nat.le_refl _))
    have r0 := spot_cell ((hb.block _ (lt_of_block HS.out)).trans HS.out)
    obtain ⟨e1, e2, e3⟩ := empty_no (s := bs []) (Nat.le_refl _)
    have x0 : ((x : Int) != 0) = true := by rw [bne_iff_ne]; have := HX.out; omega
    generalize bs [] = S at *
    generalize w5 = wz at *
    clear hb H4 HB4 HP HS
    go_wp2_with fail
    clear r0 e1 e2 e3 x0 HX
    refine (parse_any text wz (by omega)).mono ?_
    rintro e w8 ⟨rfl, hb⟩
    have H8 := Lib.hid (below_then HUP.out hb (Nat.le_refl _))
    clear hb HUP
    cases hr : parse text.data.toList with
    | bad er at' =>
      obtain ⟨hat, her⟩ := parse_bad hr
      have hat2 : (at' : Int) ≤ text.size := by have : text.data.toList.length = text.size := rfl; omega
      have hat0 : (0 : Int) ≤ at' := by omega
      have x0 : ((er : Int) != 0) = true := by rw [bne_iff_ne]; omega
      clear hr hat her
      simp only [parseV, spotV, spotC, zP]
      go_upto_region 14 with (fail)
      have hn := heap_alloc_new w8 (.cells #[.int .i64 0, .string ⟨#[]⟩] TPat)
      have hs := spot_made w8 (.cells #[.int .i64 0, .string ⟨#[]⟩] TPat) #[.int .i64 er, .int .i64 at']
      have hAB := two_below w8 (.cells #[.int .i64 0, .string ⟨#[]⟩] TPat) (.cells #[.int .i64 er, .int .i64 at'] TSp)
      have hn2 := ((below_new (w8.alloc (.cells #[.int .i64 0, .string ⟨#[]⟩] TPat)) (.cells #[.int .i64 er, .int .i64 at'] TSp)).block _ (lt_of_block hn)).trans hn
      have H9 := Lib.hid (below_then H8.out hAB (Nat.le_refl _))
      clear hAB hn H8
      generalize (w8.alloc (.cells #[.int .i64 0, .string ⟨#[]⟩] TPat)).alloc (.cells #[.int .i64 er, .int .i64 at'] TSp) = w9 at *
      generalize w8.heap.size = q1 at *
      have c2 : w9.cell? ⟨q1, 0, none⟩ = some (.int .i64 0) := by rw [cell_of_row _ _ _ _ _ _ hn2]; rfl
      have c3 : w9.cell? ⟨q1, 1, none⟩ = some (.string ⟨#[]⟩) := by rw [cell_of_row _ _ _ _ _ _ hn2]; rfl
      have c4 : w9.cell? ⟨q1 + 1, 0, none⟩ = some (.int .i64 er) := by rw [cell_of_row _ _ _ _ _ _ hs]; rfl
      have c5 : w9.cell? ⟨q1 + 1, 1, none⟩ = some (.int .i64 at') := by rw [cell_of_row _ _ _ _ _ _ hs]; rfl
      have heq := eq_zpat
      clear hn2 hs
      go_wp2_with fail
      go_ret
      exact ⟨rfl, hb0 ▸ H9.out⟩
    | ok kd o =>
      obtain ⟨hkd, htx, t2, ht2⟩ := parse_read hr
      obtain ⟨_, hol⟩ := tree_kind ht2
      have HT : Hid (bs (printR kd o) = text) := Lib.hid (by unfold printR; rw [ht2]; show bs (printL kd o) = text; rw [← htx]; rfl)
      have HU : Hid (∃ o' er at', unquoteV text = .tuple #[.string o', .agg #[.int .i64 (er : Nat), .int .i64 (at' : Nat)]] ∧ (kd = 1 → o' = bs o ∧ er = 0 ∧ at' = 0)) := Lib.hid (by
        rcases hkd with rfl | hkd
        · refine ⟨bs o, 0, 0, ?_, fun _ => ⟨rfl, rfl, rfl⟩⟩
          have : bs (quote o) = text := by rw [show quote o = text.data.toList from by rw [htx]; rfl]; rfl
          rw [← this, unquote_quote]; rfl
        · obtain ⟨o', er, at', h⟩ := unquoteV_form text
          exact ⟨o', er, at', h, fun e => by omega⟩)
      have HK := Lib.hid hkd
      clear hr hkd htx ht2
      simp only [parseV, spotV, spotC]
      go_upto_region 14 with (fail)
      have hn := heap_alloc_new w8 (.cells #[.int .i64 kd, .string (bs o)] TPat)
      have hs := spot_made w8 (.cells #[.int .i64 kd, .string (bs o)] TPat) #[.int .i64 0, .int .i64 0]
      have hAB := two_below w8 (.cells #[.int .i64 kd, .string (bs o)] TPat) (.cells #[.int .i64 0, .int .i64 0] TSp)
      have hn2 := ((below_new (w8.alloc (.cells #[.int .i64 kd, .string (bs o)] TPat)) (.cells #[.int .i64 0, .int .i64 0] TSp)).block _ (lt_of_block hn)).trans hn
      have H9 := Lib.hid (below_then H8.out hAB (Nat.le_refl _))
      have HQ := Lib.hid hn2; have HS := Lib.hid hs
      clear hAB hn hn2 hs H8
      generalize (w8.alloc (.cells #[.int .i64 kd, .string (bs o)] TPat)).alloc (.cells #[.int .i64 0, .int .i64 0] TSp) = w9 at *
      generalize w8.heap.size = q1 at *
      have c4 : w9.cell? ⟨q1 + 1, 0, none⟩ = some (.int .i64 0) := by rw [cell_of_row _ _ _ _ _ _ HS.out]; rfl
      go_wp2_with fail
      clear c4
      refine (unquote_any text w9 (by omega)).mono ?_
      rintro e w10 ⟨rfl, hb⟩
      obtain ⟨o', er, at', hU, hU1⟩ := HU.out
      rw [hU]
      have HU1 := Lib.hid hU1
      have H10 := Lib.hid (below_then H9.out hb (Nat.le_refl _))
      have HQ2 := Lib.hid ((hb.block _ (lt_of_block HQ.out)).trans HQ.out)
      have HS2 := Lib.hid ((hb.block _ (lt_of_block HS.out)).trans HS.out)
      clear hb hU hU1 HU HQ HS H9
      go_upto_region 17 with (fail)
      have hb2 := below_new w10 (.cells #[.int .i64 er, .int .i64 at'] TSp)
      have hu := heap_alloc_new w10 (.cells #[.int .i64 er, .int .i64 at'] TSp)
      have HU := Lib.hid hu
      have H11 := Lib.hid (below_then H10.out hb2 (Nat.le_refl _))
      have HQ3 := Lib.hid ((hb2.block _ (lt_of_block HQ2.out)).trans HQ2.out)
      have HS3 := Lib.hid ((hb2.block _ (lt_of_block HS2.out)).trans HS2.out)
      clear hb2 hu H10 HQ2 HS2
      generalize w10.alloc (.cells #[.int .i64 er, .int .i64 at'] TSp) = w11 at *
      generalize w10.heap.size = q2 at *
      have c2 : w11.cell? ⟨q1, 0, none⟩ = some (.int .i64 kd) := by rw [cell_of_row _ _ _ _ _ _ HQ3.out]; rfl
      have c3 : w11.cell? ⟨q1, 1, none⟩ = some (.string (bs o)) := by rw [cell_of_row _ _ _ _ _ _ HQ3.out]; rfl
      have c5 : w11.cell? ⟨q1 + 1, 1, none⟩ = some (.int .i64 0) := by rw [cell_of_row _ _ _ _ _ _ HS3.out]; rfl
      go_wp2_with fail
      clear c2 c3 c5
      refine (print_any kd (bs o) w11 (by rw [bs_sz]; omega)).mono ?_
      rintro e w12 ⟨rfl, hb⟩
      rw [bs_toList, HT.out]
      have H12 := Lib.hid (below_then H11.out hb (Nat.le_refl _))
      have hq := (hb.block _ (lt_of_block HQ3.out)).trans HQ3.out
      have hu := (hb.block _ (lt_of_block HU.out)).trans HU.out
      have c2 : w12.cell? ⟨q1, 0, none⟩ = some (.int .i64 kd) := by rw [cell_of_row _ _ _ _ _ _ hq]; rfl
      have c3 : w12.cell? ⟨q1, 1, none⟩ = some (.string (bs o)) := by rw [cell_of_row _ _ _ _ _ _ hq]; rfl
      by_cases hk1 : kd = 1
      · obtain ⟨rfl, rfl, rfl⟩ := HU1.out hk1
        subst hk1
        have c6 : w12.cell? ⟨q2, 0, none⟩ = some (.int .i64 0) := by rw [cell_of_row _ _ _ _ _ _ hu]; rfl
        have c7 : w12.cell? ⟨q2, 1, none⟩ = some (.int .i64 0) := by rw [cell_of_row _ _ _ _ _ _ hu]; rfl
        have heq := eq_spot
        clear hb hq hu H11 HQ3 HS3 HU HU1 HT HK
        go_wp2_with fail
        go_ret
        exact ⟨rfl, hb0 ▸ H12.out⟩
      · have x0 : ((kd : Int) != 1) = true := by rw [bne_iff_ne]; omega
        clear hb hq hu H11 HQ3 HS3 HU HU1 HT HK hk1
        go_wp2_with fail
        go_ret
        exact ⟨rfl, hb0 ▸ H12.out⟩
end Go.Proofs.Ytlfhjmdbkifciaa
