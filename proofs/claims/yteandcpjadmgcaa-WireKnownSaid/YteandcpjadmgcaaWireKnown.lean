/- The law WireKnown. -/
import Derived.Test.YteandcpjadmgcaaWireBack
namespace Go.Proofs.Yteandcpjadmgcaa
open Go.RowKit

set_option maxHeartbeats 1000000 in
theorem rdU8_nil (w : World) : Calls Try.prog 24 #[.pointer none] w fun e w' => e = .returned (.int .u8 0) ∧ w = w' := by
  go_enter Try.func24, Try.ntmps24
  go_wp2_with fail
  refine (number_nil _ _).mono ?_
  rintro e w1 ⟨rfl, rfl⟩
  go_wp2
  go_ret
  exact ⟨rfl, rfl⟩

set_option maxHeartbeats 1000000 in
theorem rdU32_nil (w : World) : Calls Try.prog 31 #[.pointer none] w fun e w' => e = .returned (.int .u32 0) ∧ w = w' := by
  go_enter Try.func31, Try.ntmps31
  go_wp2_with fail
  refine (number_nil _ _).mono ?_
  rintro e w1 ⟨rfl, rfl⟩
  go_wp2
  go_ret
  exact ⟨rfl, rfl⟩

set_option maxHeartbeats 1000000 in
theorem rdU64_nil (w : World) : Calls Try.prog 32 #[.pointer none] w fun e w' => e = .returned (.int .u64 0) ∧ w = w' := by
  go_enter Try.func32, Try.ntmps32
  go_wp2_with fail
  refine (number_nil _ _).mono ?_
  rintro e w1 ⟨rfl, rfl⟩
  go_wp2
  go_ret
  exact ⟨rfl, rfl⟩

set_option maxHeartbeats 1000000 in
theorem rdBool_nil (w : World) : Calls Try.prog 30 #[.pointer none] w fun e w' => e = .returned (.bool false) ∧ w = w' := by
  go_enter Try.func30, Try.ntmps30
  go_wp2
  go_ret
  exact ⟨rfl, rfl⟩

set_option maxHeartbeats 1000000 in
theorem rdText_nil (w : World) : Calls Try.prog 20 #[.pointer none, .int .i64 1] w fun e w' => e = .returned (.string ByteArray.empty) ∧ w = w' := by
  go_enter Try.func20, Try.ntmps20
  go_wp2
  go_ret
  exact ⟨rfl, rfl⟩

set_option maxHeartbeats 1000000 in
theorem rdTexts_nil (w : World) : Calls Try.prog 22 #[.pointer none, .int .i64 1, .int .i64 1] w fun e w' => e = .returned (.slice none 0 0) ∧ w = w' := by
  go_enter Try.func22, Try.ntmps22
  go_wp2
  go_ret
  exact ⟨rfl, rfl⟩

set_option maxHeartbeats 1000000 in
theorem rdRest_nil (w : World) : Calls Try.prog 23 #[.pointer none] w fun e w' => e = .returned (.string ByteArray.empty) ∧ w = w' := by
  go_enter Try.func23, Try.ntmps23
  go_wp2
  go_ret
  exact ⟨rfl, rfl⟩

theorem conv_zeros (n : Nat) (w : World) : (convert 60 9 (.slice (some ⟨w.heap.size, 0, none⟩) n n)).run Try.prog (w.alloc (.cells (madeCells #[.int .u8 0] n) 5)) =
    .ok (.string (bs (List.replicate n 0))) (w.alloc (.cells (madeCells #[.int .u8 0] n) 5)) := by
  have h := (BRow.zeros w n).str (P := Try.prog) (cap := n) _ _ _ Try.underlying60 Try.underlying5 Try.underlying9
  rw [List.length_replicate] at h
  exact h
theorem make_n (n : Nat) (m : Int) (hm : m = n) (hn : n ≤ 281474976710656) (w : World) :
    (Instr.makeSlice 60 (.int .i64 m) (.int .i64 m)).run Try.prog w = .ok (.slice (some ⟨w.heap.size, 0, none⟩) n n) (w.alloc (.cells (madeCells #[.int .u8 0] n) 5)) := by
  subst hm
  exact run_make_bytes n hn w

theorem SArg.lit2 (w : World) (a b : ByteArray) (t : TypeId) : SArg (w.alloc (.cells #[.string a, .string b] t)) (w.alloc (.cells #[.string a, .string b] t)).heap.size (some ⟨w.heap.size, 0, none⟩) [a, b] := fun _ =>
  ⟨_, rfl, by simp, fun j s hj => by
    match j with
    | 0 => simp at hj; subst hj; exact cell_of_row _ _ _ _ _ _ (heap_alloc_new w _)
    | 1 => simp at hj; subst hj; exact cell_of_row _ _ _ _ _ _ (heap_alloc_new w _)
    | n + 2 => simp at hj⟩

set_option maxRecDepth 100000 in
set_option maxHeartbeats 8000000 in
theorem wireKnown_walk (w : World) : Calls Try.prog 6 #[] w fun e w' => e = .returned (.bool true) ∧ Below w.heap.size w w' := by
  have k1 : Hid (bs (WM.texts (lists [⟨#[97]⟩, ⟨#[]⟩])) = ⟨#[0, 0, 0, 2, 0, 0, 0, 1, 97, 0, 0, 0, 0]⟩) := Lib.hid (by rfl)
  have k2 : Hid (bs (WM.be 1 7) = ⟨#[7]⟩) := Lib.hid (by rfl)
  have k3 : Hid (bs (WM.be 8 1) = ⟨#[0, 0, 0, 0, 0, 0, 0, 1]⟩) := Lib.hid (by rfl)
  go_enter Try.func6, Try.ntmps6
  go_wp2_with fail
  refine (works_true w).mono ?_
  rintro e w1 ⟨rfl, hb1⟩
  have H1 := Lib.hid hb1; clear hb1
  go_wp2_with fail
  refine (wireTexts_any _ 2 [⟨#[97]⟩, ⟨#[]⟩] _ (SArg.lit2 w1 _ _ _) (by decide) (by decide)).mono ?_
  rintro e w2 ⟨rfl, hb2⟩
  rw [k1.out]
  have H2 := Lib.hid (below_then (below_then H1.out (below_new w1 _) (Nat.le_refl _)) hb2 (Nat.le_refl _)); clear hb2 H1
  go_wp2_with fail
  refine (wireU8_any 7 w2 (by decide) (by decide)).mono ?_
  rintro e w3 ⟨rfl, hb3⟩
  have H3 := Lib.hid (below_then H2.out hb3 (Nat.le_refl _)); clear hb3
  rw [show ((7 : Int).toNat) = 7 from rfl, k2.out]
  go_wp2_with fail
  refine (wireU64_any 1 w3 (by decide) (by decide)).mono ?_
  rintro e w4 ⟨rfl, hb4⟩
  have H4 := Lib.hid (below_then H3.out hb4 (Nat.le_refl _)); clear hb4
  rw [show ((1 : Int).toNat) = 1 from rfl, k3.out]
  go_wp2_with fail
  refine (wireBool_any true w4).mono ?_
  rintro e w5 ⟨rfl, hb5⟩
  have H5 := Lib.hid (below_then H4.out hb5 (Nat.le_refl _)); clear hb5
  rw [show bs (WM.be 1 (if true then 1 else 0)) = ⟨#[1]⟩ from by rfl]
  go_wp2_with fail
  refine (wireBool_any false w5).mono ?_
  rintro e w6 ⟨rfl, hb6⟩
  have H6 := Lib.hid (below_then H5.out hb6 (Nat.le_refl _)); clear hb6
  rw [show bs (WM.be 1 (if false then 1 else 0)) = ⟨#[0]⟩ from by rfl]
  go_wp2_with fail
  refine (new_any ⟨#[0, 0, 0, 2, 97, 98, 99]⟩ w6 w.heap.size H6.out.size).mono ?_
  rintro e w7 ⟨ga, rfl, hga, hr7, hb7⟩
  have H7 := Lib.hid (below_then H6.out hb7 (Nat.le_refl _)); clear hb7
  have Ra := Lib.hid hr7; clear hr7
  have T8 := rdText_any ga 2 ⟨#[0, 0, 0, 2, 97, 98, 99]⟩ (.ok 0) w7 Ra.out (by decide)
  rw [show WM.textR (⟨#[0, 0, 0, 2, 97, 98, 99]⟩ : ByteArray).data.toList 2 (.ok 0) = ([97, 98], .ok 6) from by rfl] at T8
  replace T8 := Lib.hid T8
  clear Ra
  go_wp2_with fail
  refine T8.out.mono ?_
  rintro e w8 ⟨rfl, hr8, hq8⟩
  have Ra := Lib.hid hr8; clear hr8 T8
  have H8 := Lib.hid (below_only' H7.out hq8 (Nat.le_refl _) hga); clear hq8
  rw [show bs [97, 98] = ⟨#[97, 98]⟩ from rfl]
  have T9 := Lib.hid (rdRest_any ga ⟨#[0, 0, 0, 2, 97, 98, 99]⟩ (.ok 6) w8 Ra.out (by decide))
  go_wp2_with fail
  refine T9.out.mono ?_
  rintro e w9 ⟨rfl, hb9⟩
  replace Ra := Lib.hid (Ra.out.below hb9)
  have H9 := Lib.hid (below_then H8.out hb9 (Nat.le_refl _)); clear hb9 T9
  rw [show restOf ⟨#[0, 0, 0, 2, 97, 98, 99]⟩ (.ok 6) = ⟨#[99]⟩ from by rfl]
  have T10 := Lib.hid (rdEnd_any ga ⟨#[0, 0, 0, 2, 97, 98, 99]⟩ (.ok 6) w9 Ra.out (by decide))
  go_wp2_with fail
  refine T10.out.mono ?_
  rintro e w10 ⟨rfl, hb10⟩
  replace Ra := Lib.hid (Ra.out.below hb10)
  have H10 := Lib.hid (below_then H9.out hb10 (Nat.le_refl _)); clear hb10 T10
  rw [show endOf ⟨#[0, 0, 0, 2, 97, 98, 99]⟩ (.ok 6) = (7, 6) from by rfl]
  clear Ra
  go_wp2_with fail
  refine (new_any ⟨#[0, 0, 0, 2, 97, 98, 99]⟩ w10 w.heap.size H10.out.size).mono ?_
  rintro e w11 ⟨gb, rfl, hgb, hr11, hb11⟩
  have H11 := Lib.hid (below_then H10.out hb11 (Nat.le_refl _)); clear hb11
  have Rb := Lib.hid hr11; clear hr11
  have T12 := rdText_any gb 1 ⟨#[0, 0, 0, 2, 97, 98, 99]⟩ (.ok 0) w11 Rb.out (by decide)
  rw [show WM.textR (⟨#[0, 0, 0, 2, 97, 98, 99]⟩ : ByteArray).data.toList 1 (.ok 0) = ([], .bad 3 0) from by rfl] at T12
  replace T12 := Lib.hid T12
  clear Rb
  go_wp2_with fail
  refine T12.out.mono ?_
  rintro e w12 ⟨rfl, hr12, hq12⟩
  have Rb := Lib.hid hr12; clear hr12 T12
  have H12 := Lib.hid (below_only' H11.out hq12 (Nat.le_refl _) hgb); clear hq12
  rw [show bs [] = ⟨#[]⟩ from rfl]
  have T13 := Lib.hid (rdFault_any gb ⟨#[0, 0, 0, 2, 97, 98, 99]⟩ (.bad 3 0) w12 Rb.out)
  go_wp2_with fail
  refine T13.out.mono ?_
  rintro e w13 ⟨rfl, hb13⟩
  replace Rb := Lib.hid (Rb.out.below hb13)
  have H13 := Lib.hid (below_then H12.out hb13 (Nat.le_refl _)); clear hb13 T13
  simp only [faultOf]
  have T14 := rdU8_any gb ⟨#[0, 0, 0, 2, 97, 98, 99]⟩ (.bad 3 0) w13 Rb.out (by decide)
  rw [show WM.num (⟨#[0, 0, 0, 2, 97, 98, 99]⟩ : ByteArray).data.toList 1 (.bad 3 0) = (0, .bad 3 0) from by rfl] at T14
  replace T14 := Lib.hid T14
  clear Rb
  go_wp2_with fail
  refine T14.out.mono ?_
  rintro e w14 ⟨rfl, hr14, hq14⟩
  have Rb := Lib.hid hr14; clear hr14 T14
  have H14 := Lib.hid (below_only' H13.out hq14 (Nat.le_refl _) hgb); clear hq14
  clear Rb
  go_wp2_with fail
  refine (new_any ⟨#[0, 0, 0, 9, 97]⟩ w14 w.heap.size H14.out.size).mono ?_
  rintro e w15 ⟨gc, rfl, hgc, hr15, hb15⟩
  have H15 := Lib.hid (below_then H14.out hb15 (Nat.le_refl _)); clear hb15
  have Rc := Lib.hid hr15; clear hr15
  go_wp2_with fail
  refine (new_any ⟨#[2]⟩ w15 w15.heap.size (Nat.le_refl _)).mono ?_
  rintro e w16 ⟨gd, rfl, hgd', hr16, hb16⟩
  have Rd := Lib.hid hr16; clear hr16
  have hlt := Rc.out.lt
  have nec : gc ≠ gd := by omega
  have hgd : w.heap.size ≤ gd := Nat.le_trans H15.out.size hgd'
  replace Rc := Lib.hid (Rc.out.below hb16)
  have H16 := Lib.hid (below_then H15.out hb16 (Nat.le_refl _)); clear hb16 hlt hgd'
  have T17 := rdText_any gc 99 ⟨#[0, 0, 0, 9, 97]⟩ (.ok 0) w16 Rc.out (by decide)
  rw [show WM.textR (⟨#[0, 0, 0, 9, 97]⟩ : ByteArray).data.toList 99 (.ok 0) = ([], .bad 7 0) from by rfl] at T17
  replace T17 := Lib.hid T17
  clear Rc
  go_wp2_with fail
  refine T17.out.mono ?_
  rintro e w17 ⟨rfl, hr17, hq17⟩
  have Rc := Lib.hid hr17; clear hr17 T17
  replace Rd := Lib.hid (Rd.out.grown hq17 (fun h => nec ((Option.some.inj h).symm)))
  have H17 := Lib.hid (below_only' H16.out hq17 (Nat.le_refl _) hgc); clear hq17
  rw [show bs [] = ⟨#[]⟩ from rfl]
  have T18 := Lib.hid (rdFault_any gc ⟨#[0, 0, 0, 9, 97]⟩ (.bad 7 0) w17 Rc.out)
  go_wp2_with fail
  refine T18.out.mono ?_
  rintro e w18 ⟨rfl, hb18⟩
  replace Rc := Lib.hid (Rc.out.below hb18)
  replace Rd := Lib.hid (Rd.out.below hb18)
  have H18 := Lib.hid (below_then H17.out hb18 (Nat.le_refl _)); clear hb18 T18
  simp only [faultOf]
  clear Rc nec
  have T19 := rdBool_any gd ⟨#[2]⟩ (.ok 0) w18 Rd.out (by decide)
  rw [show WM.bool (⟨#[2]⟩ : ByteArray).data.toList (.ok 0) = (false, .bad 7 0) from by rfl] at T19
  replace T19 := Lib.hid T19
  clear Rd
  go_wp2_with fail
  refine T19.out.mono ?_
  rintro e w19 ⟨rfl, hr19, hq19⟩
  have Rd := Lib.hid hr19; clear hr19 T19
  have H19 := Lib.hid (below_only' H18.out hq19 (Nat.le_refl _) hgd); clear hq19
  have T20 := Lib.hid (rdFault_any gd ⟨#[2]⟩ (.bad 7 0) w19 Rd.out)
  go_wp2_with fail
  refine T20.out.mono ?_
  rintro e w20 ⟨rfl, hb20⟩
  replace Rd := Lib.hid (Rd.out.below hb20)
  have H20 := Lib.hid (below_then H19.out hb20 (Nat.le_refl _)); clear hb20 T20
  simp only [faultOf]
  clear Rd
  go_wp2_with fail
  refine (new_any ⟨#[0, 0, 0, 1, 0, 0, 0, 1]⟩ w20 w.heap.size H20.out.size).mono ?_
  rintro e w21 ⟨ge, rfl, hge, hr21, hb21⟩
  have H21 := Lib.hid (below_then H20.out hb21 (Nat.le_refl _)); clear hb21
  have Re := Lib.hid hr21; clear hr21
  have T22 := rdTexts_any ge 1 9 ⟨#[0, 0, 0, 1, 0, 0, 0, 1]⟩ (.ok 0) w21 Re.out (by decide)
  rw [show WM.textsR (⟨#[0, 0, 0, 1, 0, 0, 0, 1]⟩ : ByteArray).data.toList 1 9 (.ok 0) = ([], .bad 7 4) from by rfl] at T22
  replace T22 := Lib.hid T22
  clear Re
  go_wp2_with fail
  refine T22.out.mono ?_
  rintro e w22 ⟨A22, c22, l22, rfl, hl22, _, hr22, hq22⟩
  obtain rfl : l22 = [] := hl22
  have Re := Lib.hid hr22; clear hr22 T22
  have H22 := Lib.hid (below_only' H21.out hq22 (Nat.le_refl _) hge); clear hq22
  have T23 := Lib.hid (rdFault_any ge ⟨#[0, 0, 0, 1, 0, 0, 0, 1]⟩ (.bad 7 4) w22 Re.out)
  go_wp2_with fail
  refine T23.out.mono ?_
  rintro e w23 ⟨rfl, hb23⟩
  replace Re := Lib.hid (Re.out.below hb23)
  have H23 := Lib.hid (below_then H22.out hb23 (Nat.le_refl _)); clear hb23 T23
  simp only [faultOf]
  have T24 := rdTexts_any ge 0 9 ⟨#[0, 0, 0, 1, 0, 0, 0, 1]⟩ (.bad 7 4) w23 Re.out (by decide)
  rw [show WM.textsR (⟨#[0, 0, 0, 1, 0, 0, 0, 1]⟩ : ByteArray).data.toList 0 9 (.bad 7 4) = ([], .bad 7 4) from by rfl] at T24
  replace T24 := Lib.hid T24
  clear Re
  go_wp2_with fail
  refine T24.out.mono ?_
  rintro e w24 ⟨A24, c24, l24, rfl, hl24, _, hr24, hq24⟩
  obtain rfl : l24 = [] := hl24
  have Re := Lib.hid hr24; clear hr24 T24
  have H24 := Lib.hid (below_only' H23.out hq24 (Nat.le_refl _) hge); clear hq24
  have T25 := Lib.hid (rdEnd_any ge ⟨#[0, 0, 0, 1, 0, 0, 0, 1]⟩ (.bad 7 4) w24 Re.out (by decide))
  go_wp2_with fail
  refine T25.out.mono ?_
  rintro e w25 ⟨rfl, hb25⟩
  replace Re := Lib.hid (Re.out.below hb25)
  have H25 := Lib.hid (below_then H24.out hb25 (Nat.le_refl _)); clear hb25 T25
  simp only [endOf]
  clear Re
  obtain ⟨N, hN⟩ : ∃ N : Nat, Hid (N = 1048577) := ⟨_, Lib.hid rfl⟩
  have hm := make_n N 1048577 (by rw [hN.out]; rfl) (by rw [hN.out]; decide)
  have hcv := conv_zeros N
  have hsz : 1048576 < (bs (List.replicate N 0)).size := by rw [bs_size, List.length_replicate, hN.out]; decide
  go_wp2_with fail
  clear hm hcv
  refine (wireText_long _ _ hsz).mono ?_
  rintro e w26 ⟨rfl, hb26⟩
  have H26 := Lib.hid (below_then (below_then H25.out (below_new w25 _) (Nat.le_refl _)) hb26 (Nat.le_refl _)); clear hb26 hsz
  go_wp2_with fail
  refine (rdFault_nil w26).mono ?_
  rintro e w27 ⟨rfl, hb27⟩
  have H27 := Lib.hid (below_then H26.out hb27 (Nat.le_refl _)); clear hb27
  go_wp2_with fail
  refine (rdEnd_nil w27).mono ?_
  rintro e w28 ⟨rfl, hb28⟩
  have H28 := Lib.hid (below_then H27.out hb28 (Nat.le_refl _)); clear hb28
  go_wp2_with fail
  refine (rdRest_nil w28).mono ?_
  rintro e w' ⟨rfl, rfl⟩
  go_wp2_with fail
  refine (rdU8_nil w28).mono ?_
  rintro e w' ⟨rfl, rfl⟩
  go_wp2_with fail
  refine (rdU32_nil w28).mono ?_
  rintro e w' ⟨rfl, rfl⟩
  go_wp2_with fail
  refine (rdU64_nil w28).mono ?_
  rintro e w' ⟨rfl, rfl⟩
  go_wp2_with fail
  refine (rdBool_nil w28).mono ?_
  rintro e w' ⟨rfl, rfl⟩
  go_wp2_with fail
  refine (rdText_nil w28).mono ?_
  rintro e w' ⟨rfl, rfl⟩
  go_wp2_with fail
  refine (rdTexts_nil w28).mono ?_
  rintro e w' ⟨rfl, rfl⟩
  go_wp2_with fail
  go_ret
  exact ⟨rfl, H28.out⟩

end Go.Proofs.Yteandcpjadmgcaa
