/- The law FrameKnown. -/
import Derived.Test.YtcgojpdgcoddnaaFrameScan
import Derived.Test.YtcgojpdgcoddnaaFrameLaws
namespace Go.Proofs.Ytcgojpdgcoddnaa
open Go.RowKit

theorem SArg.wide {w : World} {B B' : Nat} {A : Option Addr} {ss : List ByteArray} (h : SArg w B A ss) (hB : B ≤ B') : SArg w B' A ss :=
  fun hp => by obtain ⟨ad, e, hl, hc⟩ := h hp; exact ⟨ad, e, Nat.lt_of_lt_of_le hl hB, hc⟩
theorem SArg.on {w w' : World} {A : Option Addr} {ss : List ByteArray} (h : SArg w w.heap.size A ss) (hb : Below w.heap.size w w') : SArg w' w'.heap.size A ss :=
  (h.below hb (Nat.le_refl _)).wide hb.size

theorem conv_zeros (n : Nat) (w : World) : (convert 28 9 (.slice (some ⟨w.heap.size, 0, none⟩) n n)).run Try.prog (w.alloc (.cells (madeCells #[.int .u8 0] n) 5)) =
    .ok (.string (bs (List.replicate n 0))) (w.alloc (.cells (madeCells #[.int .u8 0] n) 5)) := by
  have h := (BRow.zeros w n).str (P := Try.prog) (cap := n) _ _ _ Try.underlying28 Try.underlying5 Try.underlying9
  rw [List.length_replicate] at h
  exact h
theorem make_n (n : Nat) (m : Int) (hm : m = n) (hn : n ≤ 281474976710656) (w : World) :
    (Instr.makeSlice 28 (.int .i64 m) (.int .i64 m)).run Try.prog w = .ok (.slice (some ⟨w.heap.size, 0, none⟩) n n) (w.alloc (.cells (madeCells #[.int .u8 0] n) 5)) := by
  subst hm
  exact run_make_bytes n hn w

theorem SArg.lit2 (w : World) (a b : ByteArray) (t : TypeId) : SArg (w.alloc (.cells #[.string a, .string b] t)) (w.alloc (.cells #[.string a, .string b] t)).heap.size (some ⟨w.heap.size, 0, none⟩) [a, b] := fun _ =>
  ⟨_, rfl, by simp, fun j s hj => by
    match j with
    | 0 => simp at hj; subst hj; exact cell_of_row _ _ _ _ _ _ (heap_alloc_new w _)
    | 1 => simp at hj; subst hj; exact cell_of_row _ _ _ _ _ _ (heap_alloc_new w _)
    | n + 2 => simp at hj⟩

set_option maxRecDepth 100000 in
set_option maxHeartbeats 8000000 in
theorem frameKnown_walk (w : World) : Calls Try.prog 5 #[] w fun e w' => e = .returned (.bool true) ∧ Below w.heap.size w w' := by
  have t7 : FM.take ((bs (FM.frame [97, 98])).extract 0 7).data.toList = ([], 0, 30) := by kernel_rfl
  have t13 : FM.take ((bs (FM.frame [97, 98])).extract 0 13).data.toList = ([], 0, 30) := by kernel_rfl
  have t1 : FM.take ((⟨#[1]⟩ : ByteArray) ++ (bs (FM.frame [97, 98])).extract 1 (bs (FM.frame [97, 98])).size).data.toList = ([], 0, 7) := by kernel_rfl
  have hz : (bs (FM.frame [97, 98])).size = 14 := by rw [bs_size, FM.frame_len]; rfl
  have ha : (bs (FM.frame [97])).size = 13 := by rw [bs_size, FM.frame_len]; rfl
  have hb : (bs (FM.frame [])).size = 12 := by rw [bs_size, FM.frame_len]; rfl
  have hl : FM.chunks ((bs (FM.frame [97]) ++ bs (FM.frame []) ++ ⟨#[120, 121]⟩).size + 1) (bs (FM.frame [97]) ++ bs (FM.frame []) ++ ⟨#[120, 121]⟩).data.toList 0 = [(0, [97]), (13, [])] := by kernel_rfl
  have he : FM.chunks ((⟨#[]⟩ : ByteArray).size + 1) (⟨#[]⟩ : ByteArray).data.toList 0 = [] := by kernel_rfl
  have T := Lib.hid (And.intro t7 (And.intro t13 (And.intro t1 (And.intro hl he))))
  clear t7 t13 t1 hl he
  go_enter Try.func5, Try.ntmps5
  go_wp2_with fail
  refine (works_true w).mono ?_
  rintro e w1 ⟨rfl, hb1⟩
  go_wp2_with fail
  refine (put_any ⟨#[97, 98]⟩ _ (by decide)).mono ?_
  rintro e w2 ⟨rfl, hb2⟩
  rw [show (⟨#[97, 98]⟩ : ByteArray).data.toList = [97, 98] from rfl]
  generalize bs (FM.frame [97, 98]) = t at *
  have H2 := Lib.hid (below_then hb1 hb2 (Nat.le_refl _)); clear hb1 hb2
  go_wp2_with fail
  refine (take_any (t.extract 0 7) _ (by rw [ByteArray.size_extract]; omega)).mono ?_
  rintro e w3 ⟨rfl, hb3⟩
  rw [T.out.1]
  simp only [tookV]
  have H3 := Lib.hid (below_then H2.out hb3 (Nat.le_refl _)); clear hb3
  go_wp2_with fail
  refine (take_any (t.extract 0 13) _ (by rw [ByteArray.size_extract]; omega)).mono ?_
  rintro e w4 ⟨rfl, hb4⟩
  rw [T.out.2.1]
  simp only [tookV]
  have H4 := Lib.hid (below_then H3.out hb4 (Nat.le_refl _)); clear hb4
  have hz1 : ((⟨#[1]⟩ : ByteArray) ++ t.extract 1 14).size ≤ 100 := by rw [ByteArray.size_append, ByteArray.size_extract]; show 1 + _ ≤ 100; omega
  have T1 := T.out.2.2.1
  rw [hz] at T1
  have HT1 := Lib.hid T1; have HZ1 := Lib.hid hz1
  clear T1 hz1
  go_wp2_with fail
  refine (take_any _ _ (by have := HZ1.out; omega)).mono ?_
  rintro e w5 ⟨rfl, hb5⟩
  rw [HT1.out]
  simp only [tookV]
  have H5 := Lib.hid (below_then H4.out hb5 (Nat.le_refl _)); clear hb5
  go_wp2_with fail
  refine (put_any ⟨#[97]⟩ _ (by decide)).mono ?_
  rintro e w6 ⟨rfl, hb6⟩
  rw [show (⟨#[97]⟩ : ByteArray).data.toList = [97] from rfl]
  have H6 := Lib.hid (below_then H5.out hb6 (Nat.le_refl _)); clear hb6
  go_wp2_with fail
  refine (put_any ⟨#[]⟩ _ (by decide)).mono ?_
  rintro e w7 ⟨rfl, hb7⟩
  rw [show (⟨#[]⟩ : ByteArray).data.toList = [] from rfl]
  have H7 := Lib.hid (below_then H6.out hb7 (Nat.le_refl _)); clear hb7
  have hcat : (bs (FM.frame [97]) ++ bs (FM.frame []) ++ ⟨#[120, 121]⟩).size ≤ 100 := by rw [ByteArray.size_append, ByteArray.size_append, ha, hb]; decide
  have T4 := T.out.2.2.2.1
  generalize bs (FM.frame [97]) = ta at *
  generalize bs (FM.frame []) = tb at *
  have HT4 := Lib.hid T4; have HC := Lib.hid hcat
  clear T4 hcat
  have HS := Lib.hid (fun w => scan_any (ta ++ tb ++ ⟨#[120, 121]⟩) (by have := HC.out; omega) w)
  go_wp2_with fail
  refine (HS.out _).mono ?_
  rintro e w8 ⟨A8, c8, rfl, ha8, hb8⟩
  rw [HT4.out] at ha8 ⊢
  have HA8 := Lib.hid (show SArg w8 w8.heap.size A8 [⟨#[97]⟩, ⟨#[]⟩] from ha8)
  rw [show (pays [(0, [97]), (13, [])]).length = 2 from rfl, show FM.good [(0, [97]), (13, [])] = 25 from rfl]
  have H8 := Lib.hid (below_then H7.out hb8 (Nat.le_refl _)); clear hb8 ha8
  obtain ⟨N, hN⟩ : ∃ N : Nat, Hid (N = 4097) := ⟨_, Lib.hid rfl⟩
  obtain ⟨M, hM⟩ : ∃ N : Nat, Hid (N = 4096) := ⟨_, Lib.hid rfl⟩
  have hm := make_n N 4097 (by rw [hN.out]; rfl) (by rw [hN.out]; decide)
  have hm2 := make_n M 4096 (by rw [hM.out]; rfl) (by rw [hM.out]; decide)
  have hcv := conv_zeros N
  have hcv2 := conv_zeros M
  have hs1 : 4096 < (bs (List.replicate N 0)).size := by rw [bs_size, List.length_replicate, hN.out]; decide
  have hs2 : (bs (List.replicate M 0)).size ≤ 4096 := by rw [bs_size, List.length_replicate, hM.out]; decide
  have hs3 : (bs (FM.frame (List.replicate M 0))).size = 4108 := by rw [bs_size, FM.frame_len, List.length_replicate, hM.out]
  have HS1 := Lib.hid hs1; have HS2 := Lib.hid hs2
  clear hs1 hs2
  go_wp2_with fail
  refine (put_long _ _ HS1.out).mono ?_
  rintro e w9 ⟨rfl, hb9⟩
  have H9 := Lib.hid (below_then (below_then H8.out (below_new w8 _) (Nat.le_refl _)) hb9 (Nat.le_refl _))
  have HA9 := Lib.hid ((HA8.out.on (below_new w8 _)).on hb9); clear hb9
  go_wp2_with fail
  refine (put_any _ _ HS2.out).mono ?_
  rintro e w10 ⟨rfl, hb10⟩
  rw [bs_list]
  have H10 := Lib.hid (below_then (below_then H9.out (below_new w9 _) (Nat.le_refl _)) hb10 (Nat.le_refl _))
  have HA10 := Lib.hid ((HA9.out.on (below_new w9 _)).on hb10); clear hb10
  clear hm hm2 hcv hcv2
  generalize bs (FM.frame (List.replicate M 0)) = tz at *
  go_wp2_with fail
  refine (scan_any ⟨#[]⟩ (by decide) w10).mono ?_
  rintro e w11 ⟨A11, c11, rfl, ha11, hb11⟩
  rw [T.out.2.2.2.2]
  rw [show (pays []).length = 0 from rfl, show FM.good [] = 0 from rfl]
  have H11 := Lib.hid (below_then H10.out hb11 (Nat.le_refl _))
  have HA11 := Lib.hid (HA10.out.on hb11); clear hb11 ha11
  go_wp2_with fail
  refine (equal_true A8 (some ⟨w11.heap.size, 0, none⟩) c8 2 [⟨#[97]⟩, ⟨#[]⟩] _ (HA11.out.on (below_new w11 _)) (SArg.lit2 w11 _ _ _) (by decide)).mono ?_
  rintro e w12 ⟨rfl, hb12⟩
  have H12 := Lib.hid (below_then (below_then H11.out (below_new w11 _) (Nat.le_refl _)) hb12 (Nat.le_refl _)); clear hb12
  go_wp2_with fail
  go_ret
  exact ⟨rfl, H12.out⟩

end Go.Proofs.Ytcgojpdgcoddnaa
