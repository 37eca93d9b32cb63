/- NfaLiterals: a literal fits its own text alone; a star everything, a question mark one byte. -/
import Derived.Test.YtpiflikblpfgoaaDoorNfaWorks
import Derived.Test.YtpiflikblpfgoaaDoorNfaLitMath
namespace Go.Proofs.YtpiflikblpfgoaaDoor
open Go.RowKit PM

set_option maxRecDepth 100000 in
set_option maxHeartbeats 8000000 in
theorem nfaLiterals_walk (x s : ByteArray) (w : World) (hx : x.size ≤ 140737488355327) (_hs : s.size ≤ 140737488355327) (hT : Tab w) :
    Calls Tryd.prog 8 #[.string x, .string s] w fun e w' => e = .returned (.bool true) ∧ Below w.heap.size w w' := by
  have HT := Lib.hid hT
  clear hT
  go_enter Tryd.func8, Tryd.ntmps8
  go_wp2_with fail
  refine (works_any w HT.out).mono ?_
  rintro e w1 ⟨rfl, hb1⟩
  have HB1 := Lib.hid hb1
  have HT1 := Lib.hid (HT.out.on hb1)
  clear hb1
  by_cases hl : 65536 < s.size
  · have h1 : decide (65536 < (s.size : Int)) = true := by simp; omega
    go_wp2_with fail
    go_ret
    exact ⟨rfl, HB1.out⟩
  have h1 : decide (65536 < (s.size : Int)) = false := by simp; omega
  have hs2 : s.size ≤ 1000000 := by omega
  have HSZ := Lib.hid hs2
  have hstar := fits_star s.data.toList
  have hq : fitsB every s.data.toList = ((s.size : Int) == 1) := by
    rw [fits_quest, Bool.eq_iff_iff]
    simp only [decide_eq_true_eq, beq_iff_eq]
    have : s.data.toList.length = s.size := rfl
    omega
  have HSTAR := Lib.hid hstar; have HQ := Lib.hid hq
  clear hstar hq hs2
  have hself : (((s.size : Int) == 1) != ((s.size : Int) == 1)) = false := by simp
  by_cases hx64 : 64 < x.size
  · have h2 : decide (64 < (x.size : Int)) = true := by simp; omega
    go_wp2_with fail
    refine (of_none (kind := 1) (s := x) (fun t => tree_long hx64 t) w1 (by omega) HT1.out).mono ?_
    rintro e w2 ⟨rfl, hbx⟩
    have HB2 := Lib.hid (below_then HB1.out hbx (Nat.le_refl _)); have HT2 := Lib.hid (HT.out.on HB2.out)
    clear hbx
    go_wp2_with fail
    refine (of_tree (kind := 2) (s := ⟨#[42]⟩) tree_star w2 (by first | decide | omega) HT2.out).mono ?_
    rintro e w3 ⟨bS, AS, rfl, hn, hge, hbx⟩
    have HS3 := Lib.hid hn
    clear hn hge
    have HB3 := Lib.hid (below_then HB2.out hbx (Nat.le_refl _)); have HT3 := Lib.hid (HT.out.on HB3.out)
    clear hbx
    go_wp2_with fail
    refine (of_tree (kind := 2) (s := ⟨#[63]⟩) tree_quest w3 (by first | decide | omega) HT3.out).mono ?_
    rintro e w4 ⟨bQ, AQ, rfl, hn, hge, hbx⟩
    have HQ4 := Lib.hid hn
    clear hn hge
    have HS4 := Lib.hid (HS3.out.on hbx); have HB4 := Lib.hid (below_then HB3.out hbx (Nat.le_refl _)); have HT4 := Lib.hid (HT.out.on HB4.out)
    clear hbx
    go_wp2_with fail
    refine (match_any bS _ AS s w4 HS4.out HT4.out HSZ.out).mono ?_
    rintro e w5 ⟨rfl, hbx⟩
    rw [HSTAR.out]
    have HQ5 := Lib.hid (HQ4.out.on hbx); have HB5 := Lib.hid (below_then HB4.out hbx (Nat.le_refl _)); have HT5 := Lib.hid (HT.out.on HB5.out)
    clear hbx
    go_wp2_with fail
    refine (match_any bQ _ AQ s w5 HQ5.out HT5.out HSZ.out).mono ?_
    rintro e w6 ⟨rfl, hbx⟩
    rw [HQ.out]
    have HB6 := Lib.hid (below_then HB5.out hbx (Nat.le_refl _)); have HT6 := Lib.hid (HT.out.on HB6.out)
    clear hbx
    go_wp2_with fail
    go_ret
    exact ⟨rfl, HB6.out⟩
  · have h2 : decide (64 < (x.size : Int)) = false := by simp; omega
    have hx3 : x.data.toList.length ≤ 64 := by have : x.data.toList.length = x.size := rfl; omega
    have HXZ := Lib.hid (show x.size ≤ 1000000 by omega)
    have HLs : Hid (fitsB (joined 3 (x.data.toList.map fun c => one c.toNat)) s.data.toList = (s.toList == x.toList)) := Lib.hid (by
      rw [fits_lit hx3, ByteArray.toList_eq, ByteArray.toList_eq, Bool.eq_iff_iff]
      simp)
    have HLx : Hid (fitsB (joined 3 (x.data.toList.map fun c => one c.toNat)) x.data.toList = true) := Lib.hid (by rw [fits_lit hx3]; simp)
    have hse : ((s.toList == x.toList) == (s.toList == x.toList)) = true := by simp
    have HTX := Lib.hid (tree_short hx3)
    clear hx3
    generalize joined 3 (x.data.toList.map fun c => one c.toNat) = tx at *
    go_wp2_with fail
    refine (of_tree (kind := 1) (s := x) HTX.out w1 (by first | decide | omega) HT1.out).mono ?_
    rintro e w2 ⟨bL, AL, rfl, hn, hge, hbx⟩
    have HL2 := Lib.hid hn
    clear hn hge
    have HB2 := Lib.hid (below_then HB1.out hbx (Nat.le_refl _)); have HT2 := Lib.hid (HT.out.on HB2.out)
    clear hbx
    go_wp2_with fail
    refine (of_tree (kind := 2) (s := ⟨#[42]⟩) tree_star w2 (by first | decide | omega) HT2.out).mono ?_
    rintro e w3 ⟨bS, AS, rfl, hn, hge, hbx⟩
    have HS3 := Lib.hid hn
    clear hn hge
    have HL3 := Lib.hid (HL2.out.on hbx); have HB3 := Lib.hid (below_then HB2.out hbx (Nat.le_refl _)); have HT3 := Lib.hid (HT.out.on HB3.out)
    clear hbx
    go_wp2_with fail
    refine (of_tree (kind := 2) (s := ⟨#[63]⟩) tree_quest w3 (by first | decide | omega) HT3.out).mono ?_
    rintro e w4 ⟨bQ, AQ, rfl, hn, hge, hbx⟩
    have HQ4 := Lib.hid hn
    clear hn hge
    have HL4 := Lib.hid (HL3.out.on hbx); have HS4 := Lib.hid (HS3.out.on hbx); have HB4 := Lib.hid (below_then HB3.out hbx (Nat.le_refl _)); have HT4 := Lib.hid (HT.out.on HB4.out)
    clear hbx
    go_wp2_with fail
    refine (match_any bS _ AS s w4 HS4.out HT4.out HSZ.out).mono ?_
    rintro e w5 ⟨rfl, hbx⟩
    rw [HSTAR.out]
    have HL5 := Lib.hid (HL4.out.on hbx); have HQ5 := Lib.hid (HQ4.out.on hbx); have HB5 := Lib.hid (below_then HB4.out hbx (Nat.le_refl _)); have HT5 := Lib.hid (HT.out.on HB5.out)
    clear hbx
    go_wp2_with fail
    refine (match_any bQ _ AQ s w5 HQ5.out HT5.out HSZ.out).mono ?_
    rintro e w6 ⟨rfl, hbx⟩
    rw [HQ.out]
    have HL6 := Lib.hid (HL5.out.on hbx); have HB6 := Lib.hid (below_then HB5.out hbx (Nat.le_refl _)); have HT6 := Lib.hid (HT.out.on HB6.out)
    clear hbx
    go_wp2_with fail
    refine (match_any bL _ AL s w6 HL6.out HT6.out HSZ.out).mono ?_
    rintro e w7 ⟨rfl, hbx⟩
    rw [HLs.out]
    have HL7 := Lib.hid (HL6.out.on hbx); have HB7 := Lib.hid (below_then HB6.out hbx (Nat.le_refl _)); have HT7 := Lib.hid (HT.out.on HB7.out)
    clear hbx
    go_wp2_with fail
    refine (match_any bL _ AL x w7 HL7.out HT7.out HXZ.out).mono ?_
    rintro e w8 ⟨rfl, hbx⟩
    rw [HLx.out]
    have HB8 := Lib.hid (below_then HB7.out hbx (Nat.le_refl _)); have HT8 := Lib.hid (HT.out.on HB8.out)
    clear hbx
    go_wp2_with fail
    go_ret
    exact ⟨rfl, HB8.out⟩
end Go.Proofs.YtpiflikblpfgoaaDoor
