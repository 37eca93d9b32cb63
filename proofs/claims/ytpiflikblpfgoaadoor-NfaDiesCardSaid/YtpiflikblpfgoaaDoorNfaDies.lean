/- NfaDies: what can fit no more never does; what fits is not dead. -/
import Derived.Test.YtpiflikblpfgoaaDoorNfaNil
namespace Go.Proofs.YtpiflikblpfgoaaDoor
open Go.RowKit PM

set_option maxRecDepth 100000 in
set_option maxHeartbeats 4000000 in
theorem nfaDies_walk (kind : Int) (a s m : ByteArray) (w : World) (ha : a.size ≤ 9223372036854775807) (_hs : s.size ≤ 9223372036854775807) (_hm : m.size ≤ 9223372036854775807) (hT : Tab w) :
    Calls Tryd.prog 5 #[.agg #[.int .i64 kind, .string a], .string s, .string m] w fun e w' => e = .returned (.bool true) ∧ Below w.heap.size w w' := by
  have HT := Lib.hid hT
  clear hT
  go_enter Tryd.func5, Tryd.ntmps5
  go_wp2_with fail
  generalize hW0 : w.alloc (.cells #[.int .i64 kind, .string a] 23) = W0 at *
  have hb0 : Below w.heap.size w W0 := by rw [← hW0]; exact below_new _ _
  have hp0 : W0.heap[w.heap.size]? = some (.cells #[.int .i64 kind, .string a] 23 (0, 0)) := by rw [← hW0]; exact heap_alloc_new _ _
  clear hW0
  refine (works_any W0 (HT.out.on hb0)).mono ?_
  rintro e w1 ⟨rfl, hb1⟩
  have hp1 := (hb1.block _ (lt_of_block hp0)).trans hp0
  have y0 : w1.cell? ⟨w.heap.size, 0, none⟩ = some (.int .i64 kind) := by rw [cell_of_row _ _ 0 _ _ _ hp1]; rfl
  have y1 : w1.cell? ⟨w.heap.size, 1, none⟩ = some (.string a) := by rw [cell_of_row _ _ 1 _ _ _ hp1]; rfl
  have HB1 := Lib.hid (below_then hb0 hb1 (Nat.le_refl _))
  have HT1 := Lib.hid (HT.out.on HB1.out)
  clear hb0 hp0 hb1 hp1
  go_wp2_with fail
  refine (of_any kind a w1 ha HT1.out).mono ?_
  rintro e w2 (⟨t, b, A, ht, rfl, ho, hc⟩ | ⟨hno, rfl, hb2⟩)
  · have HN2 := Lib.hid (ho.is hc ht)
    have HB2 := Lib.hid (below_then HB1.out ho.up (Nat.le_refl _))
    have HT2 := Lib.hid (HT.out.on HB2.out)
    clear ho hc ht y0 y1
    by_cases hl1 : 2000 < s.size
    · have h1 : decide (2000 < (s.size : Int)) = true := by simp; omega
      go_wp2_with fail
      go_ret
      exact ⟨rfl, HB2.out⟩
    · have h1 : decide (2000 < (s.size : Int)) = false := by simp; omega
      by_cases hl2 : 2000 < m.size
      · have h2 : decide (2000 < (m.size : Int)) = true := by simp; omega
        go_wp2_with fail
        go_ret
        exact ⟨rfl, HB2.out⟩
      · have h2 : decide (2000 < (m.size : Int)) = false := by simp; omega
        have hsz : s.size + m.size ≤ 9223372036854775807 := by omega
        have HSZ := Lib.hid (show (s ++ m).size ≤ 4000 by rw [ByteArray.size_append]; omega)
        go_wp2_with fail
        refine (begin_any b w2).mono ?_
        rintro e w3 ⟨rfl, hr3, hb3⟩
        have HR3 : Hid (RunAt w3 w2.heap.size b t []) := Lib.hid hr3
        have HN3 := Lib.hid (HN2.out.on hb3); have HB3 := Lib.hid (below_then HB2.out hb3 (Nat.le_refl _)); have HT3 := Lib.hid (HT.out.on HB3.out)
        have hrb : w2.heap.size ≠ b := by have := HN2.out.net.lt; omega
        have hrg : w.heap.size ≤ w2.heap.size := HB2.out.size
        clear hr3 hb3
        generalize w2.heap.size = r at *
        go_wp2_with fail
        refine (runDone_any r b t A [] w3 HR3.out HN3.out).mono ?_
        rintro e w4 ⟨rfl, hb4⟩
        have HR4 := Lib.hid (HR3.out.on hb4); have HN4 := Lib.hid (HN3.out.on hb4); have HB4 := Lib.hid (below_then HB3.out hb4 (Nat.le_refl _)); have HT4 := Lib.hid (HT.out.on HB4.out)
        clear hb4
        go_wp2_with fail
        refine (match_any b t A ⟨#[]⟩ w4 HN4.out HT4.out (by decide)).mono ?_
        rintro e w5 ⟨rfl, hb5⟩
        have HR5 := Lib.hid (HR4.out.on hb5); have HN5 := Lib.hid (HN4.out.on hb5); have HB5 := Lib.hid (below_then HB4.out hb5 (Nat.le_refl _)); have HT5 := Lib.hid (HT.out.on HB5.out)
        clear hb5
        rw [show (ByteArray.mk #[]).data.toList = ([] : List UInt8) from rfl]
        have hself : (fitsB t [] != fitsB t []) = false := by simp
        generalize fitsB t [] = f0 at *
        go_wp2_with fail
        change Code.wp _ _ _ _ _
        generalize s ++ m = al at *
        have hcat : 0 ≤ al.size := Nat.zero_le _
        go_loopg [12, 10] (al.size + 1) (fun k v12 v10 wr => ∃ (i : Nat) (dd : Bool), v12 = .int .i64 i ∧ i ≤ al.size ∧ al.size + 1 - i ≤ k ∧ v10 = .bool dd ∧ Hid (RunAt wr r b t (al.data.toList.take i) ∧ NetIs wr b t A ∧ Below w.heap.size w wr ∧ (dd = true → deadB (netOf t).1 (netOf t).2 A (al.data.toList.take i) = true)))
        case atStart => exact ⟨0, false, rfl, by omega, by omega, rfl, Lib.hid ⟨HR5.out, HN5.out, HB5.out, fun e => (by cases e)⟩⟩
        case round =>
          clear HR5 HN5 HB5 HT5 HR4 HN4 HB4 HT4 HR3 HN3 HB3 HT3 HN2 HB2 HT2 HB1 HT1 hself
          obtain ⟨i, dd, rfl, hi, hik, rfl, HS⟩ := hrel
          have HR6 := Lib.hid HS.out.1; have HN6 := Lib.hid HS.out.2.1; have HB6 := Lib.hid HS.out.2.2.1; have HT6 := Lib.hid (HT.out.on HB6.out)
          have HDD := Lib.hid HS.out.2.2.2
          clear HS
          generalize wr = w6 at *
          have hsz2 : al.size ≤ 4000 := HSZ.out
          by_cases hlt : i < al.size
          · have h3 : (i : Int) < al.size := by omega
            have h4 : (0 : Int) ≤ i := by omega
            have h5 : (i : Int) ≤ 4000 := by omega
            have HSTAY : Hid (deadB (netOf t).1 (netOf t).2 A (al.data.toList.take i) = true → deadB (netOf t).1 (netOf t).2 A (al.data.toList.take (i + 1)) = true) := Lib.hid fun h => by
              have := HN6.out.stays [al[i]] h
              rw [take_snoc al i hlt] at this; exact this
            have HLIVE := Lib.hid (HN6.out.live (s := al.data.toList.take i))
            obtain ⟨F, hF⟩ : ∃ F, fitsB t (al.data.toList.take i) = F := ⟨_, rfl⟩
            obtain ⟨D, hD⟩ : ∃ D, deadB (netOf t).1 (netOf t).2 A (al.data.toList.take i) = D := ⟨_, rfl⟩
            rw [hF] at HLIVE
            rw [hD] at HLIVE HDD HSTAY
            have HF := Lib.hid hF; have HD := Lib.hid hD
            clear hF hD
            cases F with
            | true =>
              have hdf := HLIVE.out rfl
              subst hdf
              have hddf : dd = false := by
                cases dd with
                | false => rfl
                | true => exact absurd (HDD.out rfl) (by simp)
              subst hddf
              go_wp2_with fail
              refine (runDone_any r b t A (al.data.toList.take i) w6 HR6.out HN6.out).mono ?_
              rintro e w7 ⟨rfl, hbx⟩
              rw [HF.out]
              have HR7 := Lib.hid (HR6.out.on hbx); have HN7 := Lib.hid (HN6.out.on hbx); have HB7 := Lib.hid (below_then HB6.out hbx (Nat.le_refl _)); have HT7 := Lib.hid (HT.out.on HB7.out)
              clear hbx
              go_wp2_with fail
              refine (runDead_any r b t A (al.data.toList.take i) w7 HR7.out HN7.out).mono ?_
              rintro e w8 ⟨rfl, hbx⟩
              rw [HD.out]
              have HR8 := Lib.hid (HR7.out.on hbx); have HN8 := Lib.hid (HN7.out.on hbx); have HB8 := Lib.hid (below_then HB7.out hbx (Nat.le_refl _)); have HT8 := Lib.hid (HT.out.on HB8.out)
              clear hbx
              go_wp2_with fail
              refine (runDead_any r b t A (al.data.toList.take i) w8 HR8.out HN8.out).mono ?_
              rintro e w9 ⟨rfl, hbx⟩
              rw [HD.out]
              have HR9 := Lib.hid (HR8.out.on hbx); have HN9 := Lib.hid (HN8.out.on hbx); have HB9 := Lib.hid (below_then HB8.out hbx (Nat.le_refl _)); have HT9 := Lib.hid (HT.out.on HB9.out)
              clear hbx
              go_wp2_with fail
              refine (runStep_any r b t A (al.data.toList.take i) al[i] w9 HR9.out HN9.out HT9.out).mono ?_
              rintro e w10 ⟨rfl, hrx, hgx⟩
              rw [take_snoc al i hlt] at hrx
              have HRx := Lib.hid hrx; have HNx := Lib.hid (HN9.out.grown hgx (fun e => hrb (Option.some.inj e))); have HBx := Lib.hid (below_set HB9.out hgx (Nat.le_refl _) hrg)
              clear hrx hgx
              go_wp2_with fail
              go_roundg (gk - 1)
              case measure => omega
              case rel => exact ⟨i + 1, false, by go_num, by omega, by omega, rfl, Lib.hid ⟨HRx.out, HNx.out, HBx.out, HSTAY.out⟩⟩
            | false =>
              cases dd with
              | true =>
                have hdt := HDD.out rfl
                subst hdt
                go_wp2_with fail
                refine (runDone_any r b t A (al.data.toList.take i) w6 HR6.out HN6.out).mono ?_
                rintro e w7 ⟨rfl, hbx⟩
                rw [HF.out]
                have HR7 := Lib.hid (HR6.out.on hbx); have HN7 := Lib.hid (HN6.out.on hbx); have HB7 := Lib.hid (below_then HB6.out hbx (Nat.le_refl _)); have HT7 := Lib.hid (HT.out.on HB7.out)
                clear hbx
                go_wp2_with fail
                refine (runDead_any r b t A (al.data.toList.take i) w7 HR7.out HN7.out).mono ?_
                rintro e w8 ⟨rfl, hbx⟩
                rw [HD.out]
                have HR8 := Lib.hid (HR7.out.on hbx); have HN8 := Lib.hid (HN7.out.on hbx); have HB8 := Lib.hid (below_then HB7.out hbx (Nat.le_refl _)); have HT8 := Lib.hid (HT.out.on HB8.out)
                clear hbx
                go_wp2_with fail
                refine (runDead_any r b t A (al.data.toList.take i) w8 HR8.out HN8.out).mono ?_
                rintro e w9 ⟨rfl, hbx⟩
                rw [HD.out]
                have HR9 := Lib.hid (HR8.out.on hbx); have HN9 := Lib.hid (HN8.out.on hbx); have HB9 := Lib.hid (below_then HB8.out hbx (Nat.le_refl _)); have HT9 := Lib.hid (HT.out.on HB9.out)
                clear hbx
                go_wp2_with fail
                refine (runStep_any r b t A (al.data.toList.take i) al[i] w9 HR9.out HN9.out HT9.out).mono ?_
                rintro e w10 ⟨rfl, hrx, hgx⟩
                rw [take_snoc al i hlt] at hrx
                have HRx := Lib.hid hrx; have HNx := Lib.hid (HN9.out.grown hgx (fun e => hrb (Option.some.inj e))); have HBx := Lib.hid (below_set HB9.out hgx (Nat.le_refl _) hrg)
                clear hrx hgx
                go_wp2_with fail
                go_roundg (gk - 1)
                case measure => omega
                case rel => exact ⟨i + 1, true, by go_num, by omega, by omega, rfl, Lib.hid ⟨HRx.out, HNx.out, HBx.out, fun _ => HSTAY.out trivial⟩⟩
              | false =>
                go_wp2_with fail
                refine (runDone_any r b t A (al.data.toList.take i) w6 HR6.out HN6.out).mono ?_
                rintro e w7 ⟨rfl, hbx⟩
                rw [HF.out]
                have HR7 := Lib.hid (HR6.out.on hbx); have HN7 := Lib.hid (HN6.out.on hbx); have HB7 := Lib.hid (below_then HB6.out hbx (Nat.le_refl _)); have HT7 := Lib.hid (HT.out.on HB7.out)
                clear hbx
                go_wp2_with fail
                refine (runDead_any r b t A (al.data.toList.take i) w7 HR7.out HN7.out).mono ?_
                rintro e w9 ⟨rfl, hbx⟩
                rw [HD.out]
                have HR9 := Lib.hid (HR7.out.on hbx); have HN9 := Lib.hid (HN7.out.on hbx); have HB9 := Lib.hid (below_then HB7.out hbx (Nat.le_refl _)); have HT9 := Lib.hid (HT.out.on HB9.out)
                clear hbx
                go_wp2_with fail
                refine (runStep_any r b t A (al.data.toList.take i) al[i] w9 HR9.out HN9.out HT9.out).mono ?_
                rintro e w10 ⟨rfl, hrx, hgx⟩
                rw [take_snoc al i hlt] at hrx
                have HRx := Lib.hid hrx; have HNx := Lib.hid (HN9.out.grown hgx (fun e => hrb (Option.some.inj e))); have HBx := Lib.hid (below_set HB9.out hgx (Nat.le_refl _) hrg)
                clear hrx hgx
                go_wp2_with fail
                go_roundg (gk - 1)
                case measure => omega
                case rel => exact ⟨i + 1, D, by go_num, by omega, by omega, rfl, Lib.hid ⟨HRx.out, HNx.out, HBx.out, HSTAY.out⟩⟩
          · obtain rfl : i = al.size := by omega
            have htk : al.data.toList.take al.size = al.data.toList := List.take_of_length_le (Nat.le_refl _)
            rw [htk] at HR6 HDD
            clear htk
            have HLIVE := Lib.hid (HN6.out.live (s := al.data.toList))
            have hself2 : (fitsB t al.data.toList == fitsB t al.data.toList) = true := by simp
            have HS6 := Lib.hid (show al.size ≤ 1000000 by omega)
            clear hi hik hlt hsz2
            go_wp2_with fail
            refine (runDone_any r b t A al.data.toList w6 HR6.out HN6.out).mono ?_
            rintro e w7 ⟨rfl, hbx⟩
            have HR7 := Lib.hid (HR6.out.on hbx); have HN7 := Lib.hid (HN6.out.on hbx); have HB7 := Lib.hid (below_then HB6.out hbx (Nat.le_refl _)); have HT7 := Lib.hid (HT.out.on HB7.out)
            clear hbx
            go_wp2_with fail
            refine (match_any b t A al w7 HN7.out HT7.out HS6.out).mono ?_
            rintro e w8 ⟨rfl, hbx⟩
            have HR8 := Lib.hid (HR7.out.on hbx); have HN8 := Lib.hid (HN7.out.on hbx); have HB8 := Lib.hid (below_then HB7.out hbx (Nat.le_refl _)); have HT8 := Lib.hid (HT.out.on HB8.out)
            clear hbx
            cases dd with
            | false =>
              clear HDD HLIVE
              generalize fitsB t al.data.toList = F at *
              go_wp2_with fail
              go_ret
              exact ⟨rfl, HB8.out⟩
            | true =>
              have hd := HDD.out rfl
              have hf : fitsB t al.data.toList = false := by
                cases hf : fitsB t al.data.toList with
                | false => rfl
                | true => have := HLIVE.out hf; rw [hd] at this; cases this
              have HF := Lib.hid hf; have HD := Lib.hid hd
              rw [hf] at hself2 ⊢
              clear hf hd HDD HLIVE
              go_wp2_with fail
              refine (runDone_any r b t A al.data.toList w8 HR8.out HN8.out).mono ?_
              rintro e w9 ⟨rfl, hbx⟩
              rw [HF.out]
              have HR9 := Lib.hid (HR8.out.on hbx); have HN9 := Lib.hid (HN8.out.on hbx); have HB9 := Lib.hid (below_then HB8.out hbx (Nat.le_refl _)); have HT9 := Lib.hid (HT.out.on HB9.out)
              clear hbx
              go_wp2_with fail
              refine (runDead_any r b t A al.data.toList w9 HR9.out HN9.out).mono ?_
              rintro e w10 ⟨rfl, hbx⟩
              rw [HD.out]
              have HR10 := Lib.hid (HR9.out.on hbx); have HN10 := Lib.hid (HN9.out.on hbx); have HB10 := Lib.hid (below_then HB9.out hbx (Nat.le_refl _)); have HT10 := Lib.hid (HT.out.on HB10.out)
              clear hbx
              go_wp2_with fail
              go_ret
              exact ⟨rfl, HB10.out⟩
  · have HB2 := Lib.hid (below_then HB1.out hb2 (Nat.le_refl _))
    clear hb2 y0 y1 hno
    go_wp2_with fail
    refine (match_nil s w2).mono ?_
    rintro e w3 ⟨rfl, rfl⟩
    go_wp2_with fail
    refine (begin_nil w2).mono ?_
    rintro e w3 ⟨rfl, rfl⟩
    go_wp2_with fail
    go_ret
    exact ⟨rfl, HB2.out⟩
end Go.Proofs.YtpiflikblpfgoaaDoor
