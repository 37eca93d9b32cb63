/- NfaCopies: a copy of a way goes on by itself; a way that is none does nothing. -/
import Derived.Test.YtpiflikblpfgoaaDoorNfaNil2
import Derived.LaidEqlPtr
namespace Go.Proofs.YtpiflikblpfgoaaDoor
open Go.RowKit PM

theorem RunAt.on {w w' : World} {r b : Nat} {t : T} {s : List UInt8} (h : RunAt w r b t s) (hb : Below w.heap.size w w') : RunAt w' r b t s := RB.on h hb
theorem RunAt.grown {w w' : World} {r b : Nat} {t : T} {s : List UInt8} (h : RunAt w r b t s) {g : Option Nat} (hg : w.grownBy w' g) (hr : g ≠ some r) : RunAt w' r b t s := RB.grown h hg hr
theorem runs_differ {w : World} {c r b : Nat} {a1 a2 : Nat → Bool} {f1 f2 : Bool} (hc : RB w c b a1 f1) (hr : RB w r b a2 f2) (hne : c ≠ r) :
    (binOp .eql 44 (.pointer (some ⟨c, 0, none⟩)) (.pointer (some ⟨r, 0, none⟩))).run Tryd.prog w = .ok (.bool false) w := by
  have h1 : (Tryd.prog.info? TRn).map (·.size) = some 3 := by kernel_rfl
  obtain ⟨j, hj, hs⟩ := Option.map_eq_some_iff.1 h1
  exact run_eql_ptr_other w Tryd.underlying44 hj (by rw [hs]; decide) (fun e => hne (by injection e)) hc hr

set_option maxRecDepth 100000 in
set_option maxHeartbeats 8000000 in
theorem nfaCopies_walk (kind : Int) (a s m x : ByteArray) (w : World) (ha : a.size ≤ 140737488355327) (hs : s.size ≤ 140737488355327) (hm : m.size ≤ 140737488355327) (hx : x.size ≤ 140737488355327) (hT : Tab w) :
    Calls Tryd.prog 10 #[.agg #[.int .i64 kind, .string a], .string s, .string m, .string x] w fun e w' => e = .returned (.bool true) ∧ Below w.heap.size w w' := by
  have HT := Lib.hid hT
  clear hT
  go_enter Tryd.func10, Tryd.ntmps10
  go_wp2_with fail
  generalize hW0 : w.alloc (.cells #[.int .i64 kind, .string a] 23) = W0 at *
  have hb0 : Below w.heap.size w W0 := by rw [← hW0]; exact below_new _ _
  have hp0 : W0.heap[w.heap.size]? = some (.cells #[.int .i64 kind, .string a] 23 (0, 0)) := by rw [← hW0]; exact heap_alloc_new _ _
  clear hW0
  refine (works_any W0 (HT.out.on hb0)).mono ?_
  rintro e w1 ⟨rfl, hb1⟩
  have hp1 := (hb1.block _ (lt_of_block hp0)).trans hp0
  have HB1 := Lib.hid (below_then hb0 hb1 (Nat.le_refl _))
  have HP1 := Lib.hid hp1
  clear hb0 hp0 hb1 hp1
  go_wp2_with fail
  refine (step_nil 97 w1).mono ?_
  rintro e w2 ⟨rfl, rfl⟩
  go_wp2_with fail
  refine (match_nil s w1).mono ?_
  rintro e w2 ⟨rfl, rfl⟩
  go_wp2_with fail
  refine (begin_nil w1).mono ?_
  rintro e w2 ⟨rfl, rfl⟩
  go_wp2_with fail
  refine (done_nil w1).mono ?_
  rintro e w2 ⟨rfl, hb2⟩
  have HB2 := Lib.hid (below_then HB1.out hb2 (Nat.le_refl _))
  have HP2 := Lib.hid ((hb2.block _ (lt_of_block HP1.out)).trans HP1.out)
  clear hb2
  go_wp2_with fail
  refine (dead_nil w2).mono ?_
  rintro e w3 ⟨rfl, hb3⟩
  have HB3 := Lib.hid (below_then HB2.out hb3 (Nat.le_refl _))
  have HP3 := Lib.hid ((hb3.block _ (lt_of_block HP2.out)).trans HP2.out)
  clear hb3
  go_wp2_with fail
  refine (copy_nil w3).mono ?_
  rintro e w4 ⟨rfl, rfl⟩
  have y0 : w3.cell? ⟨w.heap.size, 0, none⟩ = some (.int .i64 kind) := by rw [cell_of_row _ _ 0 _ _ _ HP3.out]; rfl
  have y1 : w3.cell? ⟨w.heap.size, 1, none⟩ = some (.string a) := by rw [cell_of_row _ _ 1 _ _ _ HP3.out]; rfl
  have HT3 := Lib.hid (HT.out.on HB3.out)
  clear HP1 HP2 HP3 HB1 HB2
  go_wp2_with fail
  refine (of_any kind a w3 (by omega) HT3.out).mono ?_
  rintro e w4 (⟨t, b, A, ht, rfl, ho, hc⟩ | ⟨hno, rfl, hb4⟩)
  · have HN4 := Lib.hid (ho.is hc ht)
    have HB4 := Lib.hid (below_then HB3.out ho.up (Nat.le_refl _))
    clear ho hc ht y0 y1 HT3 HB3
    by_cases hl : 500 < s.size + m.size + x.size
    · have h1 : decide (500 < (s.size : Int) + m.size + x.size) = true := by simp; omega
      go_wp2_with fail
      go_ret
      exact ⟨rfl, HB4.out⟩
    · have h1 : decide (500 < (s.size : Int) + m.size + x.size) = false := by simp; omega
      have hl2 : s.size + m.size + x.size ≤ 500 := by omega
      go_wp2_with fail
      refine (begin_any b w4).mono ?_
      rintro e w5 ⟨rfl, hr5, hb5⟩
      have HR5 : Hid (RunAt w5 w4.heap.size b t []) := Lib.hid hr5
      have HN5 := Lib.hid (HN4.out.on hb5); have HB5 := Lib.hid (below_then HB4.out hb5 (Nat.le_refl _))
      have hrb : w4.heap.size ≠ b := by have := HN4.out.net.lt; omega
      have hrg : w.heap.size ≤ w4.heap.size := HB4.out.size
      clear hr5 hb5
      generalize w4.heap.size = r at *
      go_wp2_with fail
      go_loopg [14] (s.size + 1) (fun k v wr => ∃ i : Nat, v = .int .i64 i ∧ i ≤ s.size ∧ s.size + 1 - i ≤ k ∧ Hid (RunAt wr r b t (s.data.toList.take i) ∧ NetIs wr b t A ∧ Below w.heap.size w wr))
      case atStart => exact ⟨0, rfl, by omega, by omega, Lib.hid ⟨by first | exact HR5.out | (rw [List.take_zero, List.append_nil]; exact HR5.out), HN5.out, HB5.out⟩⟩
      case round =>
        clear HR5 HN5 HB5
        obtain ⟨i, rfl, hi, hik, HS⟩ := hrel
        by_cases hlt : i < s.size
        · have h3 : (i : Int) < s.size := by omega
          have h4 : (0 : Int) ≤ i := by omega
          have h5 : (i : Int) ≤ 500 := by omega
          go_wp2_with fail
          refine (runStep_any r b t A (s.data.toList.take i) s[i] wr HS.out.1 HS.out.2.1 (HT.out.on HS.out.2.2)).mono ?_
          rintro e wq ⟨rfl, hrx, hgx⟩
          rw [take_snoc s i hlt] at hrx
          have HRx := Lib.hid hrx
          have HNx := Lib.hid (HS.out.2.1.grown hgx (fun e => hrb (Option.some.inj e)))
          have HBx := Lib.hid (below_set HS.out.2.2 hgx (Nat.le_refl _) hrg)
          
          clear hrx hgx
          go_wp2_with fail
          go_roundg (gk - 1)
          case measure => omega
          case rel => exact ⟨i + 1, by go_num, by omega, by omega, Lib.hid ⟨HRx.out, HNx.out, HBx.out⟩⟩
        · obtain rfl : i = s.size := by omega
          have htk : s.data.toList.take s.size = s.data.toList := List.take_of_length_le (Nat.le_refl _)
          rw [htk] at HS
          clear htk hlt hi hik
          go_wp2_with fail
          refine (copy_any r b _ _ wr HS.out.1).mono ?_
          rintro e w6 ⟨rfl, hc6, hb6⟩
          have HX6 : Hid (RunAt w6 wr.heap.size b t s.data.toList) := Lib.hid hc6
          have HR6 := Lib.hid (HS.out.1.on hb6); have HN6 := Lib.hid (HS.out.2.1.on hb6); have HB6 := Lib.hid (below_then HS.out.2.2 hb6 (Nat.le_refl _))
          have hcr : wr.heap.size ≠ r := by have := HS.out.1.lt; omega
          have hcb : wr.heap.size ≠ b := by have := HS.out.2.1.net.lt; omega
          have hcg : w.heap.size ≤ wr.heap.size := HS.out.2.2.size
          clear hc6 hb6 HS
          generalize wr.heap.size = c at *
          have hdiff := runs_differ HX6.out HR6.out hcr
          go_wp2_with fail
          go_loopg [16] (m.size + 1) (fun k v wr => ∃ i : Nat, v = .int .i64 i ∧ i ≤ m.size ∧ m.size + 1 - i ≤ k ∧ Hid (RunAt wr r b t (s.data.toList ++ m.data.toList.take i) ∧ NetIs wr b t A ∧ Below w.heap.size w wr ∧ RunAt wr c b t s.data.toList))
          case atStart => exact ⟨0, rfl, by omega, by omega, Lib.hid ⟨by first | exact HR6.out | (rw [List.take_zero, List.append_nil]; exact HR6.out), HN6.out, HB6.out, HX6.out⟩⟩
          case round =>
            clear HR6 HN6 HB6
            obtain ⟨i, rfl, hi, hik, HS⟩ := hrel
            by_cases hlt : i < m.size
            · have h3 : (i : Int) < m.size := by omega
              have h4 : (0 : Int) ≤ i := by omega
              have h5 : (i : Int) ≤ 500 := by omega
              go_wp2_with fail
              refine (runStep_any r b t A (s.data.toList ++ m.data.toList.take i) m[i] wr HS.out.1 HS.out.2.1 (HT.out.on HS.out.2.2.1)).mono ?_
              rintro e wq ⟨rfl, hrx, hgx⟩
              rw [List.append_assoc, take_snoc m i hlt] at hrx
              have HRx := Lib.hid hrx
              have HNx := Lib.hid (HS.out.2.1.grown hgx (fun e => hrb (Option.some.inj e)))
              have HBx := Lib.hid (below_set HS.out.2.2.1 hgx (Nat.le_refl _) hrg)
              have HXx := Lib.hid (HS.out.2.2.2.grown hgx (fun e => hcr (Option.some.inj e).symm))
              clear hrx hgx
              go_wp2_with fail
              go_roundg (gk - 1)
              case measure => omega
              case rel => exact ⟨i + 1, by go_num, by omega, by omega, Lib.hid ⟨HRx.out, HNx.out, HBx.out, HXx.out⟩⟩
            · obtain rfl : i = m.size := by omega
              have htk : m.data.toList.take m.size = m.data.toList := List.take_of_length_le (Nat.le_refl _)
              rw [htk] at HS
              clear htk hlt hi hik
              have HR7 := Lib.hid HS.out.2.2.2; have HN7 := Lib.hid HS.out.2.1; have HB7 := Lib.hid HS.out.2.2.1; have HX7 := Lib.hid HS.out.1
              clear HS
              generalize wr = w7 at *
              go_wp2_with fail
              go_loopg [17] (x.size + 1) (fun k v wr => ∃ i : Nat, v = .int .i64 i ∧ i ≤ x.size ∧ x.size + 1 - i ≤ k ∧ Hid (RunAt wr c b t (s.data.toList ++ x.data.toList.take i) ∧ NetIs wr b t A ∧ Below w.heap.size w wr ∧ RunAt wr r b t (s.data.toList ++ m.data.toList)))
              case atStart => exact ⟨0, rfl, by omega, by omega, Lib.hid ⟨by first | exact HR7.out | (rw [List.take_zero, List.append_nil]; exact HR7.out), HN7.out, HB7.out, HX7.out⟩⟩
              case round =>
                clear HR7 HN7 HB7
                obtain ⟨i, rfl, hi, hik, HS⟩ := hrel
                by_cases hlt : i < x.size
                · have h3 : (i : Int) < x.size := by omega
                  have h4 : (0 : Int) ≤ i := by omega
                  have h5 : (i : Int) ≤ 500 := by omega
                  go_wp2_with fail
                  refine (runStep_any c b t A (s.data.toList ++ x.data.toList.take i) x[i] wr HS.out.1 HS.out.2.1 (HT.out.on HS.out.2.2.1)).mono ?_
                  rintro e wq ⟨rfl, hrx, hgx⟩
                  rw [List.append_assoc, take_snoc x i hlt] at hrx
                  have HRx := Lib.hid hrx
                  have HNx := Lib.hid (HS.out.2.1.grown hgx (fun e => hcb (Option.some.inj e)))
                  have HBx := Lib.hid (below_set HS.out.2.2.1 hgx (Nat.le_refl _) hcg)
                  have HXx := Lib.hid (HS.out.2.2.2.grown hgx (fun e => hcr (Option.some.inj e)))
                  clear hrx hgx
                  go_wp2_with fail
                  go_roundg (gk - 1)
                  case measure => omega
                  case rel => exact ⟨i + 1, by go_num, by omega, by omega, Lib.hid ⟨HRx.out, HNx.out, HBx.out, HXx.out⟩⟩
                · obtain rfl : i = x.size := by omega
                  have htk : x.data.toList.take x.size = x.data.toList := List.take_of_length_le (Nat.le_refl _)
                  rw [htk] at HS
                  clear htk hlt hi hik
                  go_wp2_with fail
                  refine (begin_any b wr).mono ?_
                  rintro e w8 ⟨rfl, hr8, hb8⟩
                  have HF8 : Hid (RunAt w8 wr.heap.size b t []) := Lib.hid hr8
                  have HC8 := Lib.hid (HS.out.1.on hb8); have HN8 := Lib.hid (HS.out.2.1.on hb8); have HB8 := Lib.hid (below_then HS.out.2.2.1 hb8 (Nat.le_refl _)); have HR8 := Lib.hid (HS.out.2.2.2.on hb8)
                  clear hr8 hb8 HS
                  generalize wr.heap.size = f at *
                  have e1 : (s ++ m).data.toList = s.data.toList ++ m.data.toList := by simp
                  have e2 : (s ++ x).data.toList = s.data.toList ++ x.data.toList := by simp
                  have HE1 := Lib.hid e1; have HE2 := Lib.hid e2
                  have hz1 : (s ++ m).size ≤ 1000000 := by rw [ByteArray.size_append]; omega
                  have hz2 : (s ++ x).size ≤ 1000000 := by rw [ByteArray.size_append]; omega
                  have HZ1 := Lib.hid hz1; have HZ2 := Lib.hid hz2
                  have hw1 : s.size + m.size ≤ 9223372036854775807 := by omega
                  have hw2 : s.size + x.size ≤ 9223372036854775807 := by omega
                  clear e1 e2 hz1 hz2
                  go_wp2_with fail
                  refine (runDone_any r b t A (s.data.toList ++ m.data.toList) w8 HR8.out HN8.out).mono ?_
                  rintro e w9 ⟨rfl, hbx⟩
                  have HF9 := Lib.hid (HF8.out.on hbx); have HC9 := Lib.hid (HC8.out.on hbx); have HR9 := Lib.hid (HR8.out.on hbx); have HN9 := Lib.hid (HN8.out.on hbx); have HB9 := Lib.hid (below_then HB8.out hbx (Nat.le_refl _))
                  clear hbx
                  go_wp2_with fail
                  refine (match_any b t A (s ++ m) w9 HN9.out (HT.out.on HB9.out) HZ1.out).mono ?_
                  rintro e w10 ⟨rfl, hbx⟩
                  rw [HE1.out]
                  have hs1 : (fitsB t (s.data.toList ++ m.data.toList) == fitsB t (s.data.toList ++ m.data.toList)) = true := by simp
                  generalize fitsB t (s.data.toList ++ m.data.toList) = F1 at *
                  have HF10 := Lib.hid (HF9.out.on hbx); have HC10 := Lib.hid (HC9.out.on hbx); have HR10 := Lib.hid (HR9.out.on hbx); have HN10 := Lib.hid (HN9.out.on hbx); have HB10 := Lib.hid (below_then HB9.out hbx (Nat.le_refl _))
                  clear hbx
                  go_wp2_with fail
                  refine (runDone_any c b t A (s.data.toList ++ x.data.toList) w10 HC10.out HN10.out).mono ?_
                  rintro e w11 ⟨rfl, hbx⟩
                  have HF11 := Lib.hid (HF10.out.on hbx); have HC11 := Lib.hid (HC10.out.on hbx); have HR11 := Lib.hid (HR10.out.on hbx); have HN11 := Lib.hid (HN10.out.on hbx); have HB11 := Lib.hid (below_then HB10.out hbx (Nat.le_refl _))
                  clear hbx
                  go_wp2_with fail
                  refine (match_any b t A (s ++ x) w11 HN11.out (HT.out.on HB11.out) HZ2.out).mono ?_
                  rintro e w12 ⟨rfl, hbx⟩
                  rw [HE2.out]
                  have hs2 : (fitsB t (s.data.toList ++ x.data.toList) == fitsB t (s.data.toList ++ x.data.toList)) = true := by simp
                  generalize fitsB t (s.data.toList ++ x.data.toList) = F2 at *
                  have HF12 := Lib.hid (HF11.out.on hbx); have HC12 := Lib.hid (HC11.out.on hbx); have HR12 := Lib.hid (HR11.out.on hbx); have HN12 := Lib.hid (HN11.out.on hbx); have HB12 := Lib.hid (below_then HB11.out hbx (Nat.le_refl _))
                  clear hbx
                  go_wp2_with fail
                  refine (runDone_any f b t A ([]) w12 HF12.out HN12.out).mono ?_
                  rintro e w13 ⟨rfl, hbx⟩
                  have HF13 := Lib.hid (HF12.out.on hbx); have HC13 := Lib.hid (HC12.out.on hbx); have HR13 := Lib.hid (HR12.out.on hbx); have HN13 := Lib.hid (HN12.out.on hbx); have HB13 := Lib.hid (below_then HB12.out hbx (Nat.le_refl _))
                  clear hbx
                  go_wp2_with fail
                  refine (match_any b t A ⟨#[]⟩ w13 HN13.out (HT.out.on HB13.out) (by decide)).mono ?_
                  rintro e w14 ⟨rfl, hbx⟩
                  rw [show (ByteArray.mk #[]).data.toList = ([] : List UInt8) from rfl]
                  have hs3 : (fitsB t [] == fitsB t []) = true := by simp
                  generalize fitsB t [] = F3 at *
                  have HF14 := Lib.hid (HF13.out.on hbx); have HC14 := Lib.hid (HC13.out.on hbx); have HR14 := Lib.hid (HR13.out.on hbx); have HN14 := Lib.hid (HN13.out.on hbx); have HB14 := Lib.hid (below_then HB13.out hbx (Nat.le_refl _))
                  clear hbx
                  go_wp2_with fail
                  go_ret
                  exact ⟨rfl, HB14.out⟩
  · have HB4 := Lib.hid (below_then HB3.out hb4 (Nat.le_refl _))
    clear hb4 y0 y1 hno
    go_wp2_with fail
    go_ret
    exact ⟨rfl, HB4.out⟩
end Go.Proofs.YtpiflikblpfgoaaDoor
