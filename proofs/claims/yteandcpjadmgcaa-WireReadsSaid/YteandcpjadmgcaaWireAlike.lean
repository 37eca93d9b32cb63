/- dragomanlaw01.alike: a reader and the document's reader answer alike. -/
import Derived.Test.YteandcpjadmgcaaWireRefRd2
import Derived.Test.YteandcpjadmgcaaWireWorks
import Derived.Deep.RegionWith
namespace Go.Proofs.Yteandcpjadmgcaa
open Go.RowKit

/-- both readers stand alike, and what lies below B is as it was in w0 -/
def Both (w0 : World) (B gr gq : Nat) (s : ByteArray) (st : WM.St) (w : World) : Prop := RS TR w gr s st ∧ RQ w gq s st ∧ Below B w0 w

theorem RS.drew {t : TypeId} {w : World} {g : Nat} {s : ByteArray} {st : WM.St} (h : RS t w g s st) : RS t w.drew g s st := by cases st <;> exact h
theorem RQ.drew {w : World} {g : Nat} {s : ByteArray} {st : WM.St} (h : RQ w g s st) : RQ w.drew g s st := by cases st <;> exact h

theorem val_be_lt {l : List UInt8} {k : Nat} {st : WM.St} (h : k = 1 ∨ k = 4) : (WM.num l k st).1 < 4294967296 := by
  have := num_lt l k st
  rcases h with rfl | rfl
  · have h2 : (WM.num l 1 st).1 < 256 := by simpa using this
    omega
  · simpa using this

theorem SArg.grown {w w' : World} {A : Option Addr} {ss : List ByteArray} {g : Nat} (h : SArg w w.heap.size A ss) (hg : w.grownBy w' (some g)) (hne : ∀ ad, A = some ad → ad.block ≠ g) : SArg w' w'.heap.size A ss := fun hp => by
  obtain ⟨ad, e, hl, hc⟩ := h hp
  exact ⟨ad, e, Nat.lt_of_lt_of_le hl hg.size, fun j x hj => hg.cell (hc j x hj) (by rw [block_add]; intro h2; exact hne ad e (Option.some.inj h2))⟩

set_option maxRecDepth 100000 in
set_option maxHeartbeats 16000000 in
theorem alike_low (w0 : World) (B gr gq : Nat) (hne : gr ≠ gq) (kind count most : Int) (s : ByteArray) (st : WM.St) (w : World) (hB : Both w0 B gr gq s st w) (hs : s.size ≤ 1000000)
    (hBr : B ≤ gr) (hBq : B ≤ gq) (hB0 : B ≤ w0.heap.size)
    (hc : -9223372036854775808 ≤ count ∧ count ≤ 9223372036854775807) (hm : -9223372036854775808 ≤ most ∧ most ≤ 9223372036854775807) (hk : kind = 0 ∨ kind = 1 ∨ kind = 2 ∨ kind = 3 ∨ kind = 4) :
    Calls Try.prog 25 #[.pointer (some ⟨gr, 0, none⟩), .pointer (some ⟨gq, 0, none⟩), .agg #[.int .i64 kind, .int .i64 count, .int .i64 most]] w fun e w' =>
      e = .returned (.bool true) ∧ ∃ st', Both w0 B gr gq s st' w' := by
  obtain ⟨hr, hq, hb⟩ := hB
  have hs2 : s.size ≤ 4611686018427387904 := by omega
  have hBw : B ≤ w.heap.size := Nat.le_trans hB0 hb.size
  have hc0 := cell_of_row (w.alloc (.cells #[.int .i64 kind, .int .i64 count, .int .i64 most] 54)) w.heap.size 0 _ _ _ (heap_alloc_new w _)
  have hc1 := cell_of_row (w.alloc (.cells #[.int .i64 kind, .int .i64 count, .int .i64 most] 54)) w.heap.size 1 _ _ _ (heap_alloc_new w _)
  have hc2 := cell_of_row (w.alloc (.cells #[.int .i64 kind, .int .i64 count, .int .i64 most] 54)) w.heap.size 2 _ _ _ (heap_alloc_new w _)
  have hr1 : RS TR (w.alloc (.cells #[.int .i64 kind, .int .i64 count, .int .i64 most] 54)) gr s st := hr.below (below_new w _)
  have hq1 : RQ (w.alloc (.cells #[.int .i64 kind, .int .i64 count, .int .i64 most] 54)) gq s st := hq.below (below_new w _)
  have hb1 : Below B w0 (w.alloc (.cells #[.int .i64 kind, .int .i64 count, .int .i64 most] 54)) := hb.alloc hBw _
  have hpr := hr.lt
  have hpq := hq.lt
  go_enter Try.func25, Try.ntmps25
  have HR := Lib.hid hr1; have HQ := Lib.hid hq1; have HB := Lib.hid hb1
  clear hr hq hb hr1 hq1 hb1
  by_cases k0 : kind = 0
  · subst k0
    go_wp2_with fail
    refine (rdU8_any gr s st _ HR.out hs2).mono ?_
    rintro e w2 ⟨rfl, hr2, hg2⟩
    have hq2 := HQ.out.grown hg2 (by intro h; exact hne (Option.some.inj h).symm)
    have hb2 := HB.out.grown hg2 (Nat.le_trans hB0 HB.out.size) (by intro k hk; cases hk; exact hBr)
    have HR2 := Lib.hid hr2; have HB2 := Lib.hid hb2
    have HC := Lib.hid (refNum_any gq 1 s st w2 hq2 hs2 (by omega))
    clear hr2 hg2 hq2 hb2 HR HQ HB
    have hv := val_be_lt (l := s.data.toList) (st := st) (Or.inl rfl : (1 : Nat) = 1 ∨ (1 : Nat) = 4)
    generalize hn : WM.num s.data.toList 1 st = rr at *
    go_wp2_with fail
    refine HC.out.mono ?_
    rintro e w3 ⟨rfl, hq3, hg3⟩
    have hr3 := HR2.out.grown hg3 (by intro h; exact hne (Option.some.inj h))
    have hb3 := HB2.out.grown hg3 (Nat.le_trans hB0 HB2.out.size) (by intro k hk; cases hk; exact hBq)
    go_wp2_with fail
    go_ret
    exact ⟨rfl, _, hr3, hq3, hb3⟩
  have n0 : (kind == 0) = false := by rw [beq_eq_false_iff_ne]; exact k0
  by_cases k1 : kind = 1
  · subst k1
    go_wp2_with fail
    refine (rdU32_any gr s st _ HR.out hs2).mono ?_
    rintro e w2 ⟨rfl, hr2, hg2⟩
    have hq2 := HQ.out.grown hg2 (by intro h; exact hne (Option.some.inj h).symm)
    have hb2 := HB.out.grown hg2 (Nat.le_trans hB0 HB.out.size) (by intro k hk; cases hk; exact hBr)
    have HR2 := Lib.hid hr2; have HB2 := Lib.hid hb2
    have HC := Lib.hid (refNum_any gq 4 s st w2 hq2 hs2 (by omega))
    clear hr2 hg2 hq2 hb2 HR HQ HB
    have hv := val_be_lt (l := s.data.toList) (st := st) (Or.inr rfl : (4 : Nat) = 1 ∨ (4 : Nat) = 4)
    generalize hn : WM.num s.data.toList 4 st = rr at *
    go_wp2_with fail
    refine HC.out.mono ?_
    rintro e w3 ⟨rfl, hq3, hg3⟩
    have hr3 := HR2.out.grown hg3 (by intro h; exact hne (Option.some.inj h))
    have hb3 := HB2.out.grown hg3 (Nat.le_trans hB0 HB2.out.size) (by intro k hk; cases hk; exact hBq)
    go_wp2_with fail
    go_ret
    exact ⟨rfl, _, hr3, hq3, hb3⟩
  have n1 : (kind == 1) = false := by rw [beq_eq_false_iff_ne]; exact k1
  by_cases k2 : kind = 2
  · subst k2
    go_wp2_with fail
    refine (rdU64_any gr s st _ HR.out hs2).mono ?_
    rintro e w2 ⟨rfl, hr2, hg2⟩
    have hq2 := HQ.out.grown hg2 (by intro h; exact hne (Option.some.inj h).symm)
    have hb2 := HB.out.grown hg2 (Nat.le_trans hB0 HB.out.size) (by intro k hk; cases hk; exact hBr)
    have HR2 := Lib.hid hr2; have HB2 := Lib.hid hb2
    have HC := Lib.hid (refNum_any gq 8 s st w2 hq2 hs2 (by omega))
    clear hr2 hg2 hq2 hb2 HR HQ HB
    generalize hn : WM.num s.data.toList 8 st = rr at *
    go_wp2_with fail
    refine HC.out.mono ?_
    rintro e w3 ⟨rfl, hq3, hg3⟩
    have hr3 := HR2.out.grown hg3 (by intro h; exact hne (Option.some.inj h))
    have hb3 := HB2.out.grown hg3 (Nat.le_trans hB0 HB2.out.size) (by intro k hk; cases hk; exact hBq)
    go_wp2_with fail
    go_ret
    exact ⟨rfl, _, hr3, hq3, hb3⟩
  have n2 : (kind == 2) = false := by rw [beq_eq_false_iff_ne]; exact k2
  by_cases k3 : kind = 3
  · subst k3
    go_wp2_with fail
    refine (rdBool_any gr s st _ HR.out hs2).mono ?_
    rintro e w2 ⟨rfl, hr2, hg2⟩
    have hq2 := HQ.out.grown hg2 (by intro h; exact hne (Option.some.inj h).symm)
    have hb2 := HB.out.grown hg2 (Nat.le_trans hB0 HB.out.size) (by intro k hk; cases hk; exact hBr)
    have HR2 := Lib.hid hr2; have HB2 := Lib.hid hb2
    have HC := Lib.hid (refBool_any gq s st w2 hq2 hs2)
    clear hr2 hg2 hq2 hb2 HR HQ HB
    generalize hn : WM.bool s.data.toList st = rr at *
    go_wp2_with fail
    refine HC.out.mono ?_
    rintro e w3 ⟨rfl, hq3, hg3⟩
    have hr3 := HR2.out.grown hg3 (by intro h; exact hne (Option.some.inj h))
    have hb3 := HB2.out.grown hg3 (Nat.le_trans hB0 HB2.out.size) (by intro k hk; cases hk; exact hBq)
    go_wp2_with fail
    go_ret
    exact ⟨rfl, _, hr3, hq3, hb3⟩
  have n3 : (kind == 3) = false := by rw [beq_eq_false_iff_ne]; exact k3
  by_cases k4 : kind = 4
  · subst k4
    go_wp2_with fail
    clear hc0 hc1 k0 k1 k2 k3 n0 n1 n2 n3
    have hnr : w.heap.size ≠ gr := by omega
    replace hc2 : (w.alloc (.cells #[.int .i64 4, .int .i64 count, .int .i64 most] 54)).drew.cell? ⟨w.heap.size, 2, none⟩ = some (.int .i64 most) := hc2
    have HRd := Lib.hid HR.out.drew; have HQd := Lib.hid HQ.out.drew; have HBd := Lib.hid HB.out.drew
    clear HR HQ HB
    generalize w.alloc (.cells #[.int .i64 4, .int .i64 count, .int .i64 most] 54) = W at hc2 HRd HQd HBd ⊢
    generalize w.heap.size = p at *
    go_region_with (first
      | (go_at_call 20; refine (rdText_any gr most s st _ HRd.out hs2).mono ?_; rintro e w2 ⟨rfl, hr2, hg2⟩; have hc2b := hg2.cell hc2 (by intro h; exact hnr (Option.some.inj h)); have HR2 := Lib.hid hr2; have HQ2 := Lib.hid (HQd.out.grown hg2 (by intro h; exact hne (Option.some.inj h).symm)); have HB2 := Lib.hid (HBd.out.grown hg2 (Nat.le_trans hB0 HBd.out.size) (by intro k hk; cases hk; exact hBr)); clear hr2 hg2)
      | (go_at_call 38; refine (refRdText_any gq most s st _ HQ2.out hs2 hm).mono ?_; rintro e w3 ⟨rfl, hq3, hg3⟩; have HQ3 := Lib.hid hq3; have HR3 := Lib.hid (HR2.out.grown hg3 (by intro h; exact hne (Option.some.inj h))); have HB3 := Lib.hid (HB2.out.grown hg3 (Nat.le_trans hB0 HB2.out.size) (by intro k hk; cases hk; exact hBq)); clear hq3 hg3))
    all_goals (go_wp2_with fail; go_ret; exact ⟨rfl, _, HR3.out, HQ3.out, HB3.out⟩)
  · omega

end Go.Proofs.Yteandcpjadmgcaa
