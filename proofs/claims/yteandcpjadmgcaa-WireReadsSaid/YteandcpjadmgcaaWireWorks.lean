/- dragomanlaw01.works is true. -/
import Derived.Test.YteandcpjadmgcaaWireLib
namespace Go.Proofs.Yteandcpjadmgcaa
open Go.RowKit

theorem lit_len (s : ByteArray) (l : List UInt8) (h : s.data.toList = l) : s = bs l := by rw [← bs_of s, h]

/-- a call that turned block g alone, seen from below g -/
theorem below_only' {B : Nat} {w a b : World} {g : Nat} (h : Below B w a) (hg : a.grownBy b (some g)) (hB : B ≤ w.heap.size) (hb : B ≤ g) : Below B w b :=
  h.grown hg (Nat.le_trans hB h.size) (by intro k hk; cases hk; exact hb)
theorem below_then {B : Nat} {w a b : World} (h : Below B w a) (hg : Below a.heap.size a b) (hB : B ≤ w.heap.size) : Below B w b := h.trans (hg.mono (Nat.le_trans hB h.size))

set_option maxRecDepth 100000 in
set_option maxHeartbeats 2000000 in
theorem works_true (w : World) : Calls Try.prog 8 #[] w fun e w' => e = .returned (.bool true) ∧ Below w.heap.size w w' := by
  have k1 : bs (WM.text [97, 98]) = ⟨#[0, 0, 0, 2, 97, 98]⟩ := by rfl
  have k2 : WM.textR [0, 0, 0, 2, 97, 98, 99] 2 (.ok 0) = ([97, 98], .ok 6) := by rfl
  have k3 : bs [97, 98] = ⟨#[97, 98]⟩ := rfl
  have k4 : bs (WM.be 4 258) = ⟨#[0, 0, 1, 2]⟩ := rfl
  have k5 : restOf ⟨#[0, 0, 0, 2, 97, 98, 99]⟩ (.ok 6) = ⟨#[99]⟩ := by rfl
  have k6 : (⟨#[0, 0, 0, 2, 97, 98]⟩ : ByteArray) ++ ⟨#[99]⟩ = ⟨#[0, 0, 0, 2, 97, 98, 99]⟩ := by rfl
  have K := Lib.hid (And.intro k1 (And.intro k2 (And.intro k3 (And.intro k4 k5))))
  clear k1 k2 k3 k4 k5
  go_enter Try.func8, Try.ntmps8
  go_wp2_with fail
  refine (wireText_any ⟨#[97, 98]⟩ _ (by decide)).mono ?_
  rintro e w1 ⟨rfl, hb1⟩
  rw [K.out.1]
  go_wp2_with fail
  refine (new_any ⟨#[0, 0, 0, 2, 97, 98, 99]⟩ _ w.heap.size hb1.size).mono ?_
  rintro e w2 ⟨g, rfl, hg, hr, hb2⟩
  have hb2' := below_then hb1 hb2 (Nat.le_refl _)
  have HT := Lib.hid (rdText_any g 2 _ _ w2 hr (by decide))
  clear hr hb1 hb2
  go_wp2_with fail
  refine HT.out.mono ?_
  rintro e w3 ⟨rfl, hr3, hg3⟩
  rw [show (WM.textR (⟨#[0, 0, 0, 2, 97, 98, 99]⟩ : ByteArray).data.toList 2 (.ok 0)) = ([97, 98], .ok 6) from K.out.2.1] at hr3 ⊢
  simp only []
  rw [K.out.2.2.1]
  have hb3' := below_only' hb2' hg3 (Nat.le_refl _) hg
  have HR := Lib.hid (rdRest_any g _ _ w3 hr3 (by decide))
  clear hr3 hg3 hb2'
  go_wp2_with fail
  refine HR.out.mono ?_
  rintro e w4 ⟨rfl, hb4⟩
  rw [K.out.2.2.2.2]
  have hb4' := below_then hb3' hb4 (Nat.le_refl _)
  clear hb4 hb3'
  go_wp2_with fail
  refine (wireU32_any 258 _ (by decide) (by decide)).mono ?_
  rintro e w5 ⟨rfl, hb5⟩
  rw [show ((258 : Int).toNat) = 258 from rfl, K.out.2.2.2.1]
  have hb5' := below_then hb4' hb5 (Nat.le_refl _)
  clear hb5 hb4'
  go_wp2
  go_ret
  exact ⟨rfl, hb5'⟩

end Go.Proofs.Yteandcpjadmgcaa
