/- NfaNames: the greatest pattern, and one that has a set without bytes. -/
import Derived.Test.YtpiflikblpfgoaaDoorNfaWorks
import Derived.Test.YtpiflikblpfgoaaDoorNfaNil
import Derived.Test.YtpiflikblpfgoaaDoorNfaNamesMath
namespace Go.Proofs.YtpiflikblpfgoaaDoor
open Go.RowKit PM

set_option maxRecDepth 100000 in
set_option maxHeartbeats 8000000 in
theorem nfaNames_walk (w : World) (hT : Tab w) : Calls Tryd.prog 9 #[] w fun e w' => e = .returned (.bool true) ∧ Below w.heap.size w w' := by
  have HT := Lib.hid hT
  clear hT
  go_enter Tryd.func9, Tryd.ntmps9
  go_wp2_with fail
  refine (works_any w HT.out).mono ?_
  rintro e w1 ⟨rfl, hb1⟩
  have H1 := Lib.hid hb1
  clear hb1
  go_wp2_with fail
  go_loopg [1, 2] 65 (fun k v1 v2 wr => ∃ (i : Nat) (S : ByteArray), v2 = .int .i64 i ∧ i ≤ 64 ∧ 64 - i < k ∧ v1 = .string S ∧ S.size = i ∧ Hid (S.data.toList = List.replicate i 46) ∧ Hid (Below w.heap.size w wr))
  case atStart => exact ⟨0, ⟨#[]⟩, rfl, by omega, by omega, rfl, rfl, Lib.hid rfl, H1⟩
  case round =>
    clear H1
    obtain ⟨i, S, rfl, hi, hik, rfl, hS, HS, HB⟩ := hrel
    by_cases hlt : i < 64
    · have hlt2 : (i : Int) < 64 := by omega
      have HS2 : Hid ((S ++ ⟨#[46]⟩ : ByteArray).data.toList = List.replicate (i + 1) 46) := Lib.hid (by
        rw [ByteArray.data_append, Array.toList_append, HS.out, List.replicate_succ']; )
      have HZ : Hid ((S ++ ⟨#[46]⟩ : ByteArray).size = i + 1) := Lib.hid (by rw [ByteArray.size_append, hS]; rfl)
      have hsz : ¬ 9223372036854775807 < S.size + 1 := by omega
      go_wp2_with fail
      go_roundg (gk - 1)
      case measure => omega
      case rel => exact ⟨i + 1, _, by go_num, by omega, by omega, rfl, HZ.out, HS2, HB⟩
    · obtain rfl : i = 64 := by omega
      have hsz : ¬ 9223372036854775807 < S.size + 1 := by omega
      have HT1 := Lib.hid (HT.out.on HB.out)
      go_wp2_with fail
      refine (of_tree (kind := 3) (s := S) (by rw [HS.out]; exact tree_names) wr (by omega) HT1.out).mono ?_
      rintro e w2 ⟨bN, AN, rfl, hn, hge, hbx⟩
      have HN2 := Lib.hid hn; have HB2 := Lib.hid (below_then HB.out hbx (Nat.le_refl _)); have HT2 := Lib.hid (HT.out.on HB2.out)
      clear hn hge hbx HB HT1
      have hlS : (S ++ ⟨#[46]⟩ : ByteArray).data.toList = List.replicate 64 46 ++ [46] := by rw [ByteArray.data_append, Array.toList_append, HS.out]
      have hlZ : (S ++ ⟨#[46]⟩ : ByteArray).size = 65 := by rw [ByteArray.size_append, hS]; rfl
      have HLS := Lib.hid hlS; have HLZ := Lib.hid hlZ
      clear hlS hlZ
      go_wp2_with fail
      obtain ⟨S2, hS2⟩ : ∃ S2, S ++ ⟨#[46]⟩ = S2 := ⟨_, rfl⟩
      rw [hS2] at HLS HLZ ⊢
      have HS2 := Lib.hid hS2
      clear hS2
      refine (of_none (kind := 3) (s := S2) (fun t => tree_more (by rw [HLS.out]; simp) t) w2 (by rw [HLZ.out]; omega) HT2.out).mono ?_
      rintro e w3 ⟨rfl, hbx⟩
      have HN3 := Lib.hid (HN2.out.on hbx); have HB3 := Lib.hid (below_then HB2.out hbx (Nat.le_refl _)); have HT3 := Lib.hid (HT.out.on HB3.out)
      clear hbx
      obtain ⟨tk, ht, hf1, hf2⟩ := tree_gap
      have HTK := Lib.hid ht; have HF1 := Lib.hid hf1; have HF2 := Lib.hid hf2
      clear ht hf1 hf2
      go_wp2_with fail
      refine (of_tree (kind := 3) (s := ⟨#[91, 94, 0, 45, 255, 93, 124, 97]⟩) HTK.out w3 (by decide) HT3.out).mono ?_
      rintro e w4 ⟨bK, AK, rfl, hn, hge, hbx⟩
      have HK4 := Lib.hid hn; have HN4 := Lib.hid (HN3.out.on hbx); have HB4 := Lib.hid (below_then HB3.out hbx (Nat.le_refl _)); have HT4 := Lib.hid (HT.out.on HB4.out)
      clear hn hge hbx
      go_wp2_with fail
      refine (begin_any bK w4).mono ?_
      rintro e w5 ⟨rfl, hr, hbx⟩
      have HR5 : Hid (RunAt w5 w4.heap.size bK tk []) := Lib.hid hr
      have HK5 := Lib.hid (HK4.out.on hbx); have HN5 := Lib.hid (HN4.out.on hbx); have HB5 := Lib.hid (below_then HB4.out hbx (Nat.le_refl _)); have HT5 := Lib.hid (HT.out.on HB5.out)
      have hrg : w.heap.size ≤ w4.heap.size := HB4.out.size
      have hrb : w4.heap.size ≠ bK := by have := HK4.out.net.lt; omega
      have hrn : w4.heap.size ≠ bN := by have := HN4.out.net.lt; omega
      have HRG := Lib.hid hrg; have HRB := Lib.hid hrb; have HRN := Lib.hid hrn
      clear hr hbx hrg hrb hrn HK4 HN4 HB4 HT4
      generalize w4.heap.size = r at *
      go_wp2_with fail
      refine (runStep_any r bK tk AK [] 97 w5 HR5.out HK5.out HT5.out).mono ?_
      rintro e w6 ⟨rfl, hr, hg⟩
      have HR6 : Hid (RunAt w6 r bK tk [97]) := Lib.hid hr
      have HK6 := Lib.hid (HK5.out.grown hg (fun e => HRB.out (Option.some.inj e))); have HN6 := Lib.hid (HN5.out.grown hg (fun e => HRN.out (Option.some.inj e)))
      have HB6 := Lib.hid (below_set HB5.out hg (Nat.le_refl _) HRG.out); have HT6 := Lib.hid (HT.out.on HB6.out)
      clear hr hg
      go_wp2_with fail
      refine (match_any bN _ AN S w6 HN6.out HT6.out (by omega)).mono ?_
      rintro e w7 ⟨rfl, hbx⟩
      rw [HS.out, fits_names, show decide ((List.replicate 64 (46 : UInt8)).length = 64) = true by simp]
      have HR7 := Lib.hid (HR6.out.on hbx); have HK7 := Lib.hid (HK6.out.on hbx); have HN7 := Lib.hid (HN6.out.on hbx); have HB7 := Lib.hid (below_then HB6.out hbx (Nat.le_refl _)); have HT7 := Lib.hid (HT.out.on HB7.out)
      clear hbx
      go_wp2_with fail
      have hx1 : (S.extract 1 64).data.toList.length = 63 := by
        have : S.data.toList.length = S.size := rfl
        simp [ByteArray.data_extract]; omega
      refine (match_any bN _ AN (S.extract 1 64) w7 HN7.out HT7.out (by have : (S.extract 1 64).data.toList.length = (S.extract 1 64).size := rfl; omega)).mono ?_
      rintro e w8 ⟨rfl, hbx⟩
      rw [fits_names, hx1, show decide (63 = 64) = false from rfl]
      have HR8 := Lib.hid (HR7.out.on hbx); have HK8 := Lib.hid (HK7.out.on hbx); have HN8 := Lib.hid (HN7.out.on hbx); have HB8 := Lib.hid (below_then HB7.out hbx (Nat.le_refl _)); have HT8 := Lib.hid (HT.out.on HB8.out)
      clear hbx hx1
      go_wp2_with fail
      rw [HS2.out]
      refine (match_any bN _ AN S2 w8 HN8.out HT8.out (by rw [HLZ.out]; omega)).mono ?_
      rintro e w9 ⟨rfl, hbx⟩
      rw [fits_names, HLS.out, show decide ((List.replicate 64 46 ++ [46] : List UInt8).length = 64) = false by simp]
      have HR9 := Lib.hid (HR8.out.on hbx); have HK9 := Lib.hid (HK8.out.on hbx); have HB9 := Lib.hid (below_then HB8.out hbx (Nat.le_refl _)); have HT9 := Lib.hid (HT.out.on HB9.out)
      clear hbx
      go_wp2_with fail
      refine (match_any bK _ AK ⟨#[97]⟩ w9 HK9.out HT9.out (by decide)).mono ?_
      rintro e w10 ⟨rfl, hbx⟩
      rw [show fitsB tk (ByteArray.mk #[97]).data.toList = true from HF1.out]
      have HR10 := Lib.hid (HR9.out.on hbx); have HK10 := Lib.hid (HK9.out.on hbx); have HB10 := Lib.hid (below_then HB9.out hbx (Nat.le_refl _)); have HT10 := Lib.hid (HT.out.on HB10.out)
      clear hbx
      go_wp2_with fail
      refine (match_any bK _ AK ⟨#[98]⟩ w10 HK10.out HT10.out (by decide)).mono ?_
      rintro e w11 ⟨rfl, hbx⟩
      rw [show fitsB tk (ByteArray.mk #[98]).data.toList = false from HF2.out]
      have HR11 := Lib.hid (HR10.out.on hbx); have HK11 := Lib.hid (HK10.out.on hbx); have HB11 := Lib.hid (below_then HB10.out hbx (Nat.le_refl _))
      clear hbx
      go_wp2_with fail
      refine (runDone_any r bK tk AK [97] w11 HR11.out HK11.out).mono ?_
      rintro e w12 ⟨rfl, hbx⟩
      rw [HF1.out]
      have HR12 := Lib.hid (HR11.out.on hbx); have HK12 := Lib.hid (HK11.out.on hbx); have HB12 := Lib.hid (below_then HB11.out hbx (Nat.le_refl _))
      clear hbx
      go_wp2_with fail
      refine (runDead_any r bK tk AK [97] w12 HR12.out HK12.out).mono ?_
      rintro e w13 ⟨rfl, hbx⟩
      rw [HK12.out.live HF1.out]
      have HB13 := Lib.hid (below_then HB12.out hbx (Nat.le_refl _))
      clear hbx
      go_wp2_with fail
      go_ret
      exact ⟨rfl, HB13.out⟩
end Go.Proofs.YtpiflikblpfgoaaDoor
