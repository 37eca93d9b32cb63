/- dragomanlaw01.alike, texts asked for. -/
import Derived.Test.YteandcpjadmgcaaWireAlike
import Derived.Deep.RegionHeld3
namespace Go.Proofs.Yteandcpjadmgcaa
open Go.RowKit

theorem loopR_len (l : List UInt8) (most : Int) : ∀ (n : Nat) (st : WM.St) (acc : List (List UInt8)), (WM.loopR l most n st acc).1.length ≤ acc.length + n
  | 0, st, acc => by simp [WM.loopR]
  | n + 1, st, acc => by
    simp only [WM.loopR]
    split
    · rename_i t b h
      have := loopR_len l most n (.ok b) (acc ++ [t])
      simp at this
      omega
    · simp

theorem textsR_len (l : List UInt8) (count most : Int) (st : WM.St) : (WM.textsR l count most st).1.length ≤ 4294967296 := by
  cases st with
  | bad e p => simp [WM.textsR]
  | ok a =>
    have hl := num_lt l 4 (.ok a)
    simp only [WM.textsR]
    cases hq : WM.num l 4 (.ok a) with
    | mk n st1 =>
      rw [hq] at hl
      have hn : n < 4294967296 := by simpa using hl
      cases st1 with
      | bad e p => simp
      | ok b =>
        simp only []
        split
        · simp
        · have := loopR_len l most n (.ok b) []
          simp at this
          omega

theorem cell_below {w w' : World} {a : Addr} {v : Value} (h : w.cell? a = some v) (hb : Below w.heap.size w w') : w'.cell? a = some v :=
  (World.cell?_of_block (hb.block a.block (World.block_lt_of_cell? w a h))).trans h

set_option maxRecDepth 100000 in
set_option maxHeartbeats 16000000 in
theorem alike_high (w0 : World) (B gr gq : Nat) (hne : gr ≠ gq) (kind count most : Int) (s : ByteArray) (st : WM.St) (w : World) (hB : Both w0 B gr gq s st w) (hs : s.size ≤ 1000000)
    (hBr : B ≤ gr) (hBq : B ≤ gq) (hB0 : B ≤ w0.heap.size)
    (hc : -9223372036854775808 ≤ count ∧ count ≤ 9223372036854775807) (hm : -9223372036854775808 ≤ most ∧ most ≤ 9223372036854775807) (k0 : ¬ kind = 0) (k1 : ¬ kind = 1) (k2 : ¬ kind = 2) (k3 : ¬ kind = 3) (k4 : ¬ kind = 4) :
    Calls Try.prog 25 #[.pointer (some ⟨gr, 0, none⟩), .pointer (some ⟨gq, 0, none⟩), .agg #[.int .i64 kind, .int .i64 count, .int .i64 most]] w fun e w' =>
      e = .returned (.bool true) ∧ ∃ st', Both w0 B gr gq s st' w' := by
  obtain ⟨hr, hq, hb⟩ := hB
  have hs2 : s.size ≤ 4611686018427387904 := by omega
  have hBw : B ≤ w.heap.size := Nat.le_trans hB0 hb.size
  have hc0 := cell_of_row (w.alloc (.cells #[.int .i64 kind, .int .i64 count, .int .i64 most] 54)) w.heap.size 0 _ _ _ (heap_alloc_new w _)
  have hc1 := cell_of_row (w.alloc (.cells #[.int .i64 kind, .int .i64 count, .int .i64 most] 54)) w.heap.size 1 _ _ _ (heap_alloc_new w _)
  have hc2 := cell_of_row (w.alloc (.cells #[.int .i64 kind, .int .i64 count, .int .i64 most] 54)) w.heap.size 2 _ _ _ (heap_alloc_new w _)
  have hr1 : RS TR (w.alloc (.cells #[.int .i64 kind, .int .i64 count, .int .i64 most] 54)) gr s st := hr.below (below_new w _)
  have hq1 : RQ (w.alloc (.cells #[.int .i64 kind, .int .i64 count, .int .i64 most] 54)) gq s st := hq.below (below_new w _)
  have hb1 : Below B w0 (w.alloc (.cells #[.int .i64 kind, .int .i64 count, .int .i64 most] 54)) := hb.alloc hBw _
  have hpr := hr.lt
  have hpq := hq.lt
  have n0 : (kind == 0) = false := by rw [beq_eq_false_iff_ne]; exact k0
  have n1 : (kind == 1) = false := by rw [beq_eq_false_iff_ne]; exact k1
  have n2 : (kind == 2) = false := by rw [beq_eq_false_iff_ne]; exact k2
  have n3 : (kind == 3) = false := by rw [beq_eq_false_iff_ne]; exact k3
  have n4 : (kind == 4) = false := by rw [beq_eq_false_iff_ne]; exact k4
  go_enter Try.func25, Try.ntmps25
  have HR := Lib.hid hr1; have HQ := Lib.hid hq1; have HB := Lib.hid hb1
  clear hr hq hb hr1 hq1 hb1
  clear k0 k1 k2 k3 k4
  go_wp2_with fail
  clear hc0 n0 n1 n2 n3 n4
  have hnr : w.heap.size ≠ gr := by omega
  have hnq : w.heap.size ≠ gq := by omega
  replace hc1 : (w.alloc (.cells #[.int .i64 kind, .int .i64 count, .int .i64 most] 54)).drew.cell? ⟨w.heap.size, 1, none⟩ = some (.int .i64 count) := hc1
  replace hc2 : (w.alloc (.cells #[.int .i64 kind, .int .i64 count, .int .i64 most] 54)).drew.cell? ⟨w.heap.size, 2, none⟩ = some (.int .i64 most) := hc2
  have HRd := Lib.hid HR.out.drew; have HQd := Lib.hid HQ.out.drew; have HBd := Lib.hid HB.out.drew
  have hWq := HQd.out.lt
  clear HR HQ HB
  generalize w.alloc (.cells #[.int .i64 kind, .int .i64 count, .int .i64 most] 54) = W at hc1 hc2 HRd HQd HBd hWq ⊢
  generalize w.heap.size = p at *
  have hlen : (WM.textsR s.data.toList count most st).1.length ≤ 4611686018427387904 := by have := textsR_len s.data.toList count most st; omega
  go_region_held3 (fun w' => w'.cell? ⟨p, 1, none⟩ = some (.int .i64 count) ∧ w'.cell? ⟨p, 2, none⟩ = some (.int .i64 most))
    (first | exact ⟨hc1d, hc2d⟩ | exact ⟨hc1c, hc2c⟩ | exact ⟨hc1b, hc2b⟩ | exact ⟨hc1, hc2⟩)
    (first
    | (go_at_call 22; refine (rdTexts_new gr count most s st _ HRd.out hs2).mono ?_; rintro e w2 ⟨A2, c2, ss2, rfl, hss2, ha2, hn2, hr2, hg2⟩; have hc1b := hg2.cell hc1 (by intro h; exact hnr (Option.some.inj h)); have hc2b := hg2.cell hc2 (by intro h; exact hnr (Option.some.inj h)); have HR2 := Lib.hid hr2; have HA2 := Lib.hid ha2; have HN2 := Lib.hid hn2; have HS2 := Lib.hid hss2; have HQ2 := Lib.hid (HQd.out.grown hg2 (by intro h; exact hne (Option.some.inj h).symm)); have HB2 := Lib.hid (HBd.out.grown hg2 (Nat.le_trans hB0 HBd.out.size) (by intro k hk; cases hk; exact hBr)); clear hr2 hg2 ha2 hn2 hss2)
    | (go_at_call 39; refine (refRdTexts_any gq count most s st _ HQ2.out hs2 hc hm).mono ?_; rintro e w3 ⟨A3, c3, ss3, rfl, hss3, ha3, hq3, hg3⟩; obtain rfl : ss2 = ss3 := HS2.out.trans hss3.symm; have HA3 := Lib.hid ha3; have HA2b := Lib.hid (HA2.out.grown hg3 (fun ad e h => by have := HN2.out ad e; omega)); have HQ3 := Lib.hid hq3; have HR3 := Lib.hid (HR2.out.grown hg3 (by intro h; exact hne (Option.some.inj h))); have HB3 := Lib.hid (HB2.out.grown hg3 (Nat.le_trans hB0 HB2.out.size) (by intro k hk; cases hk; exact hBq)); have hc1c := hg3.cell hc1b (by intro h; exact hnq (Option.some.inj h)); have hc2c := hg3.cell hc2b (by intro h; exact hnq (Option.some.inj h)); clear hq3 hg3 ha3 hss3)
    | (go_at_call 18; refine (equal_true A2 A3 c2 c3 ss2 _ HA2b.out HA3.out (by rw [HS2.out, List.length_map]; exact hlen)).mono ?_; rintro e w4 ⟨rfl, hb4⟩; have HR4 := Lib.hid (HR3.out.below hb4); have HQ4 := Lib.hid (HQ3.out.below hb4); have HB4 := Lib.hid (HB3.out.trans (hb4.mono (Nat.le_trans hB0 HB3.out.size))); have hc1d := cell_below hc1c hb4; have hc2d := cell_below hc2c hb4; clear hb4))
  all_goals (go_wp2_with fail; go_ret; exact ⟨rfl, _, HR4.out, HQ4.out, HB4.out⟩)

end Go.Proofs.Yteandcpjadmgcaa
