/- The laws FramePuts, FrameSpoilt. -/
import Derived.Test.YtcgojpdgcoddnaaFrameWorks
namespace Go.Proofs.Ytcgojpdgcoddnaa
open Go.RowKit

set_option maxRecDepth 100000 in
set_option maxHeartbeats 2000000 in
theorem framePuts_walk (p : ByteArray) (w : World) (hp : p.size ≤ 9223372036854775807) :
    Calls Try.prog 3 #[.string p] w fun e w' => e = .returned (.bool true) ∧ Below w.heap.size w w' := by
  go_enter Try.func3, Try.ntmps3
  go_wp2_with fail
  refine (works_true w).mono ?_
  rintro e w1 ⟨rfl, hb1⟩
  by_cases h1 : 65536 < p.size
  · have hd : decide (65536 < (p.size : Int)) = true := by simp; omega
    go_wp2_with fail
    go_ret
    exact ⟨rfl, hb1⟩
  have hd1 : decide (65536 < (p.size : Int)) = false := by simp; omega
  by_cases h2 : 4096 < p.size
  · have hd2 : decide (4096 < (p.size : Int)) = true := by simp; omega
    go_wp2_with fail
    refine (put_long p w1 h2).mono ?_
    rintro e w2 ⟨rfl, hb2⟩
    go_wp2_with fail
    go_ret
    exact ⟨rfl, below_then hb1 hb2 (Nat.le_refl _)⟩
  · have hd2 : decide (4096 < (p.size : Int)) = false := by simp; omega
    go_wp2_with fail
    refine (put_any p w1 (by omega)).mono ?_
    rintro e w2 ⟨rfl, hb2⟩
    have hc2 := below_then hb1 hb2 (Nat.le_refl _)
    go_wp2_with fail
    refine (refPut_any p w2 (by omega)).mono ?_
    rintro e w3 ⟨rfl, hb3⟩
    go_wp2_with fail
    go_ret
    exact ⟨rfl, below_then hc2 hb3 (Nat.le_refl _)⟩

theorem u8_turn (c : UInt8) (b : Nat) (hb : b < 256) : bits BinOp.xor IntKind.u8 (c.toNat : Int) (b : Int) = (((c ^^^ UInt8.ofNat b).toNat : Nat) : Int) := by
  rw [u8_xor_nat _ _ c.toNat_lt hb, UInt8.toNat_xor, UInt8.toNat_ofNat', Nat.mod_eq_of_lt hb]
theorem u8_turn_ne (c : UInt8) (b : Nat) (hb : b < 256) (h0 : b ≠ 0) : c ^^^ UInt8.ofNat b ≠ c := by
  intro h
  have h1 := congrArg (fun x => c ^^^ x) h
  simp only [← UInt8.xor_assoc, UInt8.xor_self, UInt8.zero_xor] at h1
  have h2 := congrArg UInt8.toNat h1
  rw [UInt8.toNat_ofNat', Nat.mod_eq_of_lt hb] at h2
  exact h0 h2

set_option maxRecDepth 100000 in
set_option maxHeartbeats 4000000 in
theorem frameSpoilt_walk (p : ByteArray) (at_ : Int) (b : Nat) (w : World) (hp : p.size ≤ 9223372036854775807) (hb : b < 256) :
    Calls Try.prog 4 #[.string p, .int .i64 at_, .int .u8 b] w fun e w' => e = .returned (.bool true) ∧ Below w.heap.size w w' := by
  go_enter Try.func4, Try.ntmps4
  go_wp2_with fail
  refine (works_true w).mono ?_
  rintro e w1 ⟨rfl, hb1⟩
  by_cases h2 : 4096 < p.size
  · have hd2 : decide ((p.size : Int) ≤ 4096) = false := by simp; omega
    go_wp2_with fail
    refine (put_long p w1 h2).mono ?_
    rintro e w2 ⟨rfl, hb2⟩
    go_wp2_with fail
    go_ret
    exact ⟨rfl, below_then hb1 hb2 (Nat.le_refl _)⟩
  have hd2 : decide ((p.size : Int) ≤ 4096) = true := by simp; omega
  have hsp := FM.take_spoilt p.data.toList (by show p.size ≤ 4096; omega)
  have hfl : (bs (FM.frame p.data.toList)).size = p.size + 12 := by rw [bs_size, FM.frame_len]; rfl
  have hfb := bs_list (FM.frame p.data.toList)
  go_wp2_with fail
  refine (put_any p w1 (by omega)).mono ?_
  rintro e w2 ⟨rfl, hb2⟩
  have hc2 := below_then hb1 hb2 (Nat.le_refl _)
  rw [← hfb] at hsp
  generalize bs (FM.frame p.data.toList) = s at *
  have hfl2 : (s.size : Int) = p.size + 12 := by omega
  have HSP := Lib.hid hsp
  have HFL := Lib.hid hfl
  clear hsp hfb hfl hb1 hb2
  by_cases hneg : at_ < 0
  · have hd3 : decide (at_ < 0) = true := by simp; omega
    go_wp2_with fail
    go_ret
    exact ⟨rfl, hc2⟩
  have hd3 : decide (at_ < 0) = false := by simp; omega
  by_cases hbig : (p.size : Int) + 12 ≤ at_
  · have hd4 : decide ((p.size : Int) + 12 ≤ at_) = true := by simp; omega
    go_wp2_with fail
    go_ret
    exact ⟨rfl, hc2⟩
  have hd4 : decide ((p.size : Int) + 12 ≤ at_) = false := by simp; omega
  by_cases hb0 : b = 0
  · have hd5 : ((b : Int) == 0) = true := by rw [beq_iff_eq]; omega
    go_wp2_with fail
    go_ret
    exact ⟨rfl, hc2⟩
  have hd5 : ((b : Int) == 0) = false := by rw [beq_eq_false_iff_ne]; omega
  obtain ⟨k, rfl⟩ := Int.eq_ofNat_of_zero_le (show 0 ≤ at_ by omega)
  have hk : k < s.data.toList.length := by show k < s.size; omega
  have hconv := fun w => Lib.run_convert_string_bytes (P := Try.prog) w 9 28 5 s Try.underlying9 Try.underlying28 Try.underlying5
  have hB0 := BRow.new w2 s
  have hbW : Below w.heap.size w (Lib.bytesWorld w2 5 s) := hc2.trans ((below_bytesWorld w2 s).mono hc2.size)
  obtain ⟨W, hWe⟩ : ∃ W, Lib.bytesWorld w2 5 s = W := ⟨_, rfl⟩
  obtain ⟨g, hge⟩ : ∃ g, w2.heap.size = g := ⟨_, rfl⟩
  rw [hWe, hge] at hB0
  rw [hWe] at hbW
  have hcell := hB0.cell hk
  have hfro := hB0.frozen hk
  have hks : (k : Int) < s.size := by have : s.data.toList.length = s.size := rfl; omega
  have hgd : s.data.toList.getD k 0 = s.data.toList[k] := by rw [List.getD_eq_getElem?_getD, List.getElem?_eq_getElem hk]; rfl
  obtain ⟨c, hc0⟩ : ∃ c, s.data.toList.getD k 0 = c := ⟨_, rfl⟩
  rw [hc0] at hcell hgd
  have hxx := u8_turn c b hb
  have hne := u8_turn_ne c b hb hb0
  generalize c ^^^ UInt8.ofNat b = c2 at hxx hne
  have hrow := hB0.set k c2
  have hgw : w.heap.size ≤ g := by rw [← hge]; exact hc2.size
  have hbW2 := Below.setCell hbW (p := ⟨g, k, none⟩) hgw (.int .u8 (c2.toNat : Nat))
  have hspk := HSP.out k c2 hk (by rw [← hgd]; exact hne)
  have hl2n : (s.data.toList.set k c2).length = s.size := by rw [List.length_set]; rfl
  have hstr := hrow.str (P := Try.prog) (cap := grownCap w2 s.size 0 5) 28 9 5 Try.underlying28 Try.underlying5 Try.underlying9
  rw [hl2n] at hstr
  generalize hl2 : s.data.toList.set k c2 = l2 at *
  have HBW2 := Lib.hid hbW2; have HSK := Lib.hid hspk; have HL2 := Lib.hid hl2n
  clear hrow hbW2 hspk hne hB0 hbW HSP hl2 hl2n hgd hc0
  go_wp2_with fail
  refine (take_any _ _ (by show (bs l2).size ≤ _; rw [bs_size, HL2.out]; omega)).mono ?_
  rintro e w3 ⟨rfl, hb3⟩
  have hc3 := HBW2.out.trans (hb3.mono HBW2.out.size)
  rw [show (⟨l2.toArray⟩ : ByteArray).data.toList = l2 from rfl]
  simp only [tookV]
  generalize FM.take l2 = r at *
  obtain ⟨r1, r2, r3⟩ := r
  obtain ⟨rfl, h3⟩ := HSK.out
  have e9 : ((r3 : Int) != 0) = true := by rw [bne_iff_ne]; have : r3 ≠ 0 := h3; omega
  clear HSK h3
  go_wp2_with fail
  go_ret
  exact ⟨rfl, hc3⟩

end Go.Proofs.Ytcgojpdgcoddnaa
