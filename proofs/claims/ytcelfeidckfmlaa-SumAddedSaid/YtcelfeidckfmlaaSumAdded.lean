/- The law SumAdded returns true at every input: its walk. -/
import Derived.Test.YtcelfeidckfmlaaSumJoin
import Derived.Test.YtcelfeidckfmlaaBytes
import Derived.StillTailTactics
import Derived.Deep.RegionWith
namespace Go.Proofs.Ytcelfeidckfmlaa
open Go.RowKit CrcMath

/-- the bytes of the three added, behind k rounds -/
def three (a b c : List UInt8) (n k : Nat) : List UInt8 := (List.range n).map fun i => if i < k then a.getD i 0 ^^^ b.getD i 0 ^^^ c.getD i 0 else 0
theorem three_len (a b c : List UInt8) (n k : Nat) : (three a b c n k).length = n := by simp [three]
theorem three_zero (a b c : List UInt8) (n : Nat) : three a b c n 0 = List.replicate n 0 := by
  apply List.ext_getElem
  · simp [three]
  · intro i h1 h2; simp [three]
theorem three_getD (a b c : List UInt8) {n k i : Nat} (h : i < n) : (three a b c n k).getD i 0 = if i < k then a.getD i 0 ^^^ b.getD i 0 ^^^ c.getD i 0 else 0 := by
  simp [three, List.getD, h]
theorem three_succ (a b c : List UInt8) (n k : Nat) : (three a b c n k).set k (a.getD k 0 ^^^ b.getD k 0 ^^^ c.getD k 0) = three a b c n (k + 1) := by
  apply List.ext_getElem
  · simp [three]
  · intro i h1 h2
    have hi : i < n := by simpa [three] using h2
    rw [List.getElem_set]
    by_cases h : k = i
    · subst h; simp [three]
    · simp only [h, if_false]
      simp only [three, List.getElem_map, List.getElem_range]
      have : (i < k + 1) ↔ i < k := by omega
      simp only [this]

theorem ret_bool3 {b : Bool} (h : b = true) : Ending.returned (.bool b) = .returned (.bool true) := by rw [h]

theorem byte_getD (s : ByteArray) (q : Nat) (h : q < s.size) : s[q] = s.data.toList.getD q 0 := by
  have h2 : q < s.data.toList.length := h
  simp only [List.getD, List.getElem?_eq_getElem h2, Option.getD_some]
  rfl

theorem u8_three (x y z : UInt8) : bits BinOp.xor IntKind.u8 (bits BinOp.xor IntKind.u8 (x.toNat : Int) (y.toNat : Int)) (z.toNat : Int) = (((x ^^^ y ^^^ z).toNat : Nat) : Int) := by
  have h1 := u8_xor_nat x.toNat y.toNat x.toNat_lt y.toNat_lt
  have h2 := u8_xor_nat (x ^^^ y).toNat z.toNat (x ^^^ y).toNat_lt z.toNat_lt
  rw [h1, ← UInt8.toNat_xor, h2, ← UInt8.toNat_xor]

set_option maxRecDepth 100000 in
set_option maxHeartbeats 1000000 in
theorem sumAdded_walk (a b c : ByteArray) (n : Nat) (w : World) (ha : n ≤ a.size) (hb : n ≤ b.size) (hc : n ≤ c.size) (hn : n ≤ 3000) (hm : (if (c.size : Int) < if b.size < a.size then (b.size : Int) else a.size then (c.size : Int) else if b.size < a.size then (b.size : Int) else a.size) = n)
    (_ha' : a.size ≤ 9223372036854775807) (_hb' : b.size ≤ 9223372036854775807) (_hc' : c.size ≤ 9223372036854775807) :
    Calls Try.prog 7 #[.string a, .string b, .string c] w fun e w' => e = .returned (.bool true) ∧ Below w.heap.size w w' := by
  have hmk := run_make_bytes n (by omega)
  go_enter Try.func7, Try.ntmps7
  go_wp2_with fail
  refine (sumWorks_any _).mono ?_
  rintro e w1 ⟨rfl, hb1⟩
  go_wp2
  have hB0 := BRow.zeros w1 n
  have hbW : Below w.heap.size w (w1.alloc (.cells (madeCells #[.int .u8 0] n) 5)) := hb1.alloc hb1.size _
  generalize hW : w1.alloc (.cells (madeCells #[.int .u8 0] n) 5) = W at hB0 hbW ⊢
  have hg : w.heap.size ≤ w1.heap.size := hb1.size
  clear hW hmk hb1 hm
  generalize w1.heap.size = g at hB0 hg ⊢
  rw [← three_zero a.data.toList b.data.toList c.data.toList] at hB0
  go_loopw [24] (fun k wr => ∃ q : Nat, q ≤ n ∧ k = .int .i64 q ∧ BRow wr g (three a.data.toList b.data.toList c.data.toList n q) ∧ Below w.heap.size w wr) (fun k _ => n - (intOf k).toNat)
  case atStart => exact ⟨0, by omega, rfl, hB0, hbW⟩
  case round =>
    obtain ⟨q, hq, rfl, hrow, hbr⟩ := hrel
    by_cases hlt : q < n
    · have hl := three_len a.data.toList b.data.toList c.data.toList n q
      have hcell := hrow.cell (i := q) (by omega)
      have hfro := hrow.frozen (i := q) (by omega)
      have hset := hrow.drew.set q (a.data.toList.getD q 0 ^^^ b.data.toList.getD q 0 ^^^ c.data.toList.getD q 0)
      rw [three_succ] at hset
      have HS := Lib.hid hset; have HBe := Lib.hid hbr; clear hset hbr hrow hl
      have hx := u8_three (a.data.toList.getD q 0) (b.data.toList.getD q 0) (c.data.toList.getD q 0)
      have HX := Lib.hid hx; clear hx
      have ha1 : q < a.size := by omega
      have hb1 : q < b.size := by omega
      have hc1 : q < c.size := by omega
      have ha2 : (q : Int) < a.size := by omega
      have hb2 : (q : Int) < b.size := by omega
      have hc2 : (q : Int) < c.size := by omega
      have hn2 : (q : Int) < n := by omega
      have hq0 : (0 : Int) ≤ q := by omega
      go_wp2
      go_still_tail 14, (by kernel_rfl)
      change wpList _ _ _ _ _ wr.drew
      have hcell' : ∃ v, wr.drew.cell? ⟨g, q, none⟩ = some v := ⟨_, hcell⟩
      obtain ⟨v0, hcell'⟩ := hcell'
      have hfro' : wr.drew.frozen? ⟨g, q, none⟩ = false := hfro
      have HBe' : Hid (Below w.heap.size w wr.drew) := HBe.out.drew
      clear hcell hfro HBe
      generalize wr.drew = w2 at hcell' hfro' HS HBe' ⊢
      go_wp2
      rw [byte_getD a q ha1, byte_getD b q hb1, byte_getD c q hc1, HX.out]
      exact ⟨⟨q + 1, by omega, by go_num, HS.out, HBe'.out.setCell hg _⟩, by simp [intOf]; omega⟩
    · have hq2 : q = n := by omega
      subst hq2
      clear hlt
      have hl := three_len a.data.toList b.data.toList c.data.toList q q
      have hstr := hrow.drew.str (cap := q) 33 9 5 Try.underlying33 Try.underlying5 Try.underlying9
      rw [hl] at hstr
      have hbs : (ByteArray.mk (three a.data.toList b.data.toList c.data.toList q q).toArray).size ≤ 9223372036854775807 := by
        show (three a.data.toList b.data.toList c.data.toList q q).toArray.size ≤ _
        simp [hl]; omega
      have hfin : ((crc (three a.data.toList b.data.toList c.data.toList q q) : Int) == bits BinOp.xor IntKind.u32 (bits BinOp.xor IntKind.u32 ((crc (a.data.toList.take q) : Nat) : Int) ((crc (b.data.toList.take q) : Nat) : Int)) ((crc (c.data.toList.take q) : Nat) : Int)) = true := by
        have ka : q ≤ a.data.toList.length := ha
        have kb : q ≤ b.data.toList.length := hb
        have kc : q ≤ c.data.toList.length := hc
        have h3 := crc_three (l := three a.data.toList b.data.toList c.data.toList q q) (a := a.data.toList.take q) (b := b.data.toList.take q) (c := c.data.toList.take q)
          (by rw [hl, List.length_take]; omega) (by rw [hl, List.length_take]; omega) (by rw [hl, List.length_take]; omega) (fun i hi => by
            rw [hl] at hi
            rw [three_getD _ _ _ hi, if_pos hi]
            simp [List.getD, hi])
        rw [h3, u32_xor_nat _ _ (crc_lt _) (crc_lt _), u32_xor_nat _ _ (xor_lt32 (crc_lt _) (crc_lt _)) (crc_lt _), beq_iff_eq]
      have HF := Lib.hid hfin; clear hfin
      have HBR := Lib.hid hbr.drew; clear hbr
      generalize three a.data.toList b.data.toList c.data.toList q q = bl at *
      clear hrow
      have hba : (a.extract 0 q).size ≤ 9223372036854775807 := by simp; omega
      have hbb : (b.extract 0 q).size ≤ 9223372036854775807 := by simp; omega
      have hbc : (c.extract 0 q).size ≤ 9223372036854775807 := by simp; omega
      go_wp2
      go_region_with (first
        | (go_at_call 11; refine (of_any _ _ (by assumption)).mono ?_; rintro e2 w3 ⟨rfl, hb3⟩; have HBR' := Lib.hid (HBR.out.trans (hb3.mono HBR.out.size)); clear HBR hb3; have HBR := HBR'; clear HBR'))
      go_wp2
      go_ret
      exact ⟨ret_bool3 HF.out, HBR.out⟩

set_option maxRecDepth 100000 in
set_option maxHeartbeats 1000000 in
theorem sumAdded_long (a b c : ByteArray) (n : Nat) (w : World) (hn : 3000 < n) (hm : (if (c.size : Int) < if b.size < a.size then (b.size : Int) else a.size then (c.size : Int) else if b.size < a.size then (b.size : Int) else a.size) = n) :
    Calls Try.prog 7 #[.string a, .string b, .string c] w fun e w' => e = .returned (.bool true) ∧ Below w.heap.size w w' := by
  have hd : decide (3000 < (n : Int)) = true := by simp; omega
  go_enter Try.func7, Try.ntmps7
  go_wp2_with fail
  refine (sumWorks_any _).mono ?_
  rintro e w1 ⟨rfl, hb1⟩
  go_wp2
  go_ret
  exact ⟨rfl, hb1⟩

theorem sumAdded_all (a b c : ByteArray) (w : World) (ha : a.size ≤ 9223372036854775807) (hb : b.size ≤ 9223372036854775807) (hc : c.size ≤ 9223372036854775807) :
    Calls Try.prog 7 #[.string a, .string b, .string c] w fun e w' => e = .returned (.bool true) ∧ Below w.heap.size w w' := by
  have hm : ∃ n : Nat, (if (c.size : Int) < if b.size < a.size then (b.size : Int) else a.size then (c.size : Int) else if b.size < a.size then (b.size : Int) else a.size) = n ∧ n ≤ a.size ∧ n ≤ b.size ∧ n ≤ c.size := by
    by_cases h1 : b.size < a.size
    · simp only [h1, if_true]
      by_cases h2 : (c.size : Int) < b.size
      · rw [if_pos h2]; exact ⟨c.size, rfl, by omega, by omega, by omega⟩
      · rw [if_neg h2]; exact ⟨b.size, rfl, by omega, by omega, by omega⟩
    · simp only [h1, if_false]
      by_cases h2 : (c.size : Int) < a.size
      · rw [if_pos h2]; exact ⟨c.size, rfl, by omega, by omega, by omega⟩
      · rw [if_neg h2]; exact ⟨a.size, rfl, by omega, by omega, by omega⟩
  obtain ⟨n, hm, h1, h2, h3⟩ := hm
  by_cases hn : n ≤ 3000
  · exact sumAdded_walk a b c n w h1 h2 h3 hn hm ha hb hc
  · exact sumAdded_long a b c n w (by omega) hm

end Go.Proofs.Ytcelfeidckfmlaa
