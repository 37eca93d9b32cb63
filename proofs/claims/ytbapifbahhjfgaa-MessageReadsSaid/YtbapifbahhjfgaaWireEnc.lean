/- Package wire, and the document's (dragomanref01): numbers and texts written, each at every input. -/
import Derived.Test.YtbapifbahhjfgaaBytes
import Derived.Test.YtbapifbahhjfgaaWireMath
namespace Go.Proofs.Ytbapifbahhjfgaa
open Go.RowKit

/-- bytes as a string -/
def bs (l : List UInt8) : ByteArray := ⟨l.toArray⟩
theorem bs_list (l : List UInt8) : (bs l).data.toList = l := rfl
theorem bs_size (l : List UInt8) : (bs l).size = l.length := by show l.toArray.size = _; simp
theorem bs_of (s : ByteArray) : bs s.data.toList = s := rfl
theorem bs_append (l m : List UInt8) : bs l ++ bs m = bs (l ++ m) := by
  apply ByteArray.ext
  rw [ByteArray.data_append]
  simp [bs]

theorem strNums (l : List UInt8) : strOfNums (l.map fun c => (c.toNat : Int)) = bs l := strOfNums_bytes l

theorem conv_lit (w : World) (cs : Array Value) (l : List UInt8) (h : cs = (l.map fun c => Value.int .u8 c.toNat).toArray) (n c : Nat) (hn : l.length = n) :
    (convert 43 9 (.slice (some ⟨w.heap.size, 0, none⟩) n c)).run Try.prog (w.alloc (.cells cs 5)) = .ok (.string (bs l)) (w.alloc (.cells cs 5)) := by
  subst hn
  have hb : BRow (w.alloc (.cells cs 5)) w.heap.size l := by
    refine ⟨cs, _, heap_alloc_new w _, Or.inl (Nat.le_refl _), by rw [h]; simp, fun i hi => ?_⟩
    rw [h]
    simp [List.getD, hi]
  exact hb.str _ _ _ Try.underlying43 Try.underlying5 Try.underlying9

set_option maxRecDepth 100000 in
set_option maxHeartbeats 1000000 in
theorem wireU8_any (n : Int) (w : World) (h0 : 0 ≤ n) (h : n < 256) :
    Calls Try.prog 34 #[.int .u8 n] w fun e w' => e = .returned (.string (bs (WM.be 1 n.toNat))) ∧ Below w.heap.size w w' := by
  go_enter Try.func34, Try.ntmps34
  have hc := conv_lit w #[.int .u8 n] (WM.be 1 n.toNat) (by simp [WM.be]; omega) 1 1 rfl
  have hb : Below w.heap.size w (w.alloc (.cells #[.int .u8 n] 5)) := (Below.refl _ _).alloc (Nat.le_refl _) _
  have HB := Lib.hid hb; clear hb
  go_wp2
  go_ret
  exact ⟨rfl, HB.out⟩

set_option maxRecDepth 100000 in
set_option maxHeartbeats 1000000 in
theorem wireU32_any (n : Int) (w : World) (h0 : 0 ≤ n) (h : n < 4294967296) :
    Calls Try.prog 37 #[.int .u32 n] w fun e w' => e = .returned (.string (bs (WM.be 4 n.toNat))) ∧ Below w.heap.size w w' := by
  go_enter Try.func37, Try.ntmps37
  have hc := conv_lit w #[.int .u8 (n / 16777216), .int .u8 (n / 65536 % 256), .int .u8 (n / 256 % 256), .int .u8 (n % 256)] (WM.be 4 n.toNat) (by simp [WM.be]; omega) 4 4 (WM.be_len _ _)
  have hb : Below w.heap.size w (w.alloc (.cells #[.int .u8 (n / 16777216), .int .u8 (n / 65536 % 256), .int .u8 (n / 256 % 256), .int .u8 (n % 256)] 5)) := (Below.refl _ _).alloc (Nat.le_refl _) _
  have HB := Lib.hid hb; clear hb
  go_wp2
  go_ret
  exact ⟨rfl, HB.out⟩

theorem be8 (n : Nat) : WM.be 8 n = WM.be 4 (n / 4294967296) ++ WM.be 4 (n % 4294967296) := by
  have h1 : ∀ a b : Nat, a = b → UInt8.ofNat a = UInt8.ofNat b := fun a b h => by rw [h]
  simp only [WM.be, List.nil_append, List.cons_append]
  rw [h1 (n / 256 / 256 / 256 / 256 / 256 / 256 / 256 % 256) (n / 4294967296 / 256 / 256 / 256 % 256) (by omega), h1 (n / 256 / 256 / 256 / 256 / 256 / 256 % 256) (n / 4294967296 / 256 / 256 % 256) (by omega),
    h1 (n / 256 / 256 / 256 / 256 / 256 % 256) (n / 4294967296 / 256 % 256) (by omega), h1 (n / 256 / 256 / 256 / 256 % 256) (n / 4294967296 % 256) (by omega),
    h1 (n / 256 / 256 / 256 % 256) (n % 4294967296 / 256 / 256 / 256 % 256) (by omega), h1 (n / 256 / 256 % 256) (n % 4294967296 / 256 / 256 % 256) (by omega),
    h1 (n / 256 % 256) (n % 4294967296 / 256 % 256) (by omega), h1 (n % 256) (n % 4294967296 % 256) (by omega)]

set_option maxRecDepth 100000 in
set_option maxHeartbeats 1000000 in
theorem wireU64_any (n : Int) (w : World) (h0 : 0 ≤ n) (h : n < 18446744073709551616) :
    Calls Try.prog 35 #[.int .u64 n] w fun e w' => e = .returned (.string (bs (WM.be 8 n.toNat))) ∧ Below w.heap.size w w' := by
  go_enter Try.func35, Try.ntmps35
  go_wp2_with fail
  refine (wireU32_any _ _ (by omega) (by omega)).mono ?_
  rintro e w1 ⟨rfl, hb1⟩
  go_wp2_with fail
  refine (wireU32_any _ _ (by omega) (by omega)).mono ?_
  rintro e w2 ⟨rfl, hb2⟩
  simp only []
  have hap := bs_append (WM.be 4 (n / 4294967296).toNat) (WM.be 4 (n % 4294967296).toNat)
  rw [show WM.be 4 (n / 4294967296).toNat ++ WM.be 4 (n % 4294967296).toNat = WM.be 8 n.toNat from by
    rw [be8, show (n / 4294967296).toNat = n.toNat / 4294967296 from by omega, show (n % 4294967296).toNat = n.toNat % 4294967296 from by omega]] at hap
  have hz1 := bs_size (WM.be 4 (n / 4294967296).toNat)
  have hz2 := bs_size (WM.be 4 (n % 4294967296).toNat)
  rw [WM.be_len] at hz1 hz2
  go_wp2
  go_ret
  exact ⟨rfl, hb1.trans (hb2.mono hb1.size)⟩

set_option maxHeartbeats 1000000 in
theorem wireBool_any (b : Bool) (w : World) :
    Calls Try.prog 36 #[.bool b] w fun e w' => e = .returned (.string (bs (WM.be 1 (if b then 1 else 0)))) ∧ Below w.heap.size w w' := by
  cases b
  · go_enter Try.func36, Try.ntmps36
    go_wp2_with (go_at_call 34; refine (wireU8_any _ _ (by omega) (by omega)).mono ?_; rintro e w1 ⟨rfl, hb1⟩)
    go_ret
    exact ⟨rfl, hb1⟩
  · go_enter Try.func36, Try.ntmps36
    go_wp2_with (go_at_call 34; refine (wireU8_any _ _ (by omega) (by omega)).mono ?_; rintro e w1 ⟨rfl, hb1⟩)
    go_ret
    exact ⟨rfl, hb1⟩

theorem text_bs (s : ByteArray) : bs (WM.be 4 s.size) ++ s = bs (WM.text s.data.toList) := by
  conv => lhs; rw [← bs_of s]
  rw [bs_append]; rfl

set_option maxRecDepth 100000 in
set_option maxHeartbeats 1000000 in
theorem wireText_any (s : ByteArray) (w : World) (hs : s.size ≤ 1048576) :
    Calls Try.prog 38 #[.string s] w fun e w' => e = .returned (.tuple #[.string (bs (WM.text s.data.toList)), .int .i64 0]) ∧ Below w.heap.size w w' := by
  have hd : decide (1048576 < (s.size : Int)) = false := by simp; omega
  go_enter Try.func38, Try.ntmps38
  go_wp2_with fail
  refine (wireU32_any _ _ (by omega) (by omega)).mono ?_
  rintro e w1 ⟨rfl, hb1⟩
  simp only [Int.toNat_natCast]
  have ht := text_bs s
  have hz1 := bs_size (WM.be 4 s.size)
  rw [WM.be_len] at hz1
  go_wp2
  go_ret2
  exact ⟨rfl, hb1⟩

set_option maxHeartbeats 1000000 in
theorem wireText_long (s : ByteArray) (w : World) (hs : 1048576 < s.size) :
    Calls Try.prog 38 #[.string s] w fun e w' => e = .returned (.tuple #[.string ByteArray.empty, .int .i64 3]) ∧ Below w.heap.size w w' := by
  have hd : decide (1048576 < (s.size : Int)) = true := by simp; omega
  go_enter Try.func38, Try.ntmps38
  go_wp2
  go_ret2
  exact ⟨rfl, Below.refl _ _⟩

set_option maxRecDepth 100000 in
set_option maxHeartbeats 1000000 in
theorem refNumber_any (m width : Nat) (w : World) (hm : m < 18446744073709551616) (hw : width ≤ 8) :
    Calls Try.prog 39 #[.int .u64 m, .int .i64 width] w fun e w' => e = .returned (.string (bs (WM.be width m))) ∧ Below w.heap.size w w' := by
  have hmk := run_make_bytes width (by omega)
  go_enter Try.func39, Try.ntmps39
  go_wp2
  have hB0 := BRow.zeros w width
  have hbW : Below w.heap.size w (w.alloc (.cells (madeCells #[.int .u8 0] width) 5)) := (Below.refl _ _).alloc (Nat.le_refl _) _
  generalize hW : w.alloc (.cells (madeCells #[.int .u8 0] width) 5) = W at hB0 hbW ⊢
  clear hW hmk
  have HBW := Lib.hid hbW; clear hbW
  generalize hgg : w.heap.size = g at hB0 HBW ⊢
  have HG := Lib.hid hgg; clear hgg
  go_loopw [0, 6] (fun x i wr => ∃ (q xn : Nat) (t : List UInt8), q ≤ 8 ∧ i = .int .i64 ((q : Int) - 1) ∧ x = .int .u64 xn ∧ xn < 18446744073709551616 ∧ Hid (WM.be q xn ++ t = WM.be width m) ∧ BRow wr g (List.replicate q 0 ++ t) ∧ Hid (Below g w wr) ∧ Hid (q + t.length = width)) (fun _ i _ => (intOf i + 1).toNat)
  case atStart => exact ⟨width, m, [], by omega, rfl, rfl, hm, by show _ = _; simp, by simpa using hB0, HBW, by show _ = _; simp⟩
  case round =>
    obtain ⟨q, xn, t, hq, rfl, rfl, hx, H1, hrow, hbr, H2⟩ := hrel
    rcases Nat.eq_zero_or_pos q with h0 | h0
    · subst h0
      have hl : t.length = width := by have := H2.out; omega
      have ht : t = WM.be width m := by have := H1.out; simpa [WM.be] using this
      have hrow' : BRow wr g t := by simpa using hrow
      have hstr := hrow'.str (cap := width) 43 9 5 Try.underlying43 Try.underlying5 Try.underlying9
      rw [hl, ht] at hstr
      have hstr2 : (convert 43 9 (.slice (some ⟨g, 0, none⟩) width width)).run Try.prog wr = .ok (.string (bs (WM.be width m))) wr := hstr
      clear hstr hrow hrow' ht hl
      go_wp2
      go_ret
      exact ⟨rfl, by rw [HG.out]; exact hbr.out⟩
    · obtain ⟨k, rfl⟩ : ∃ k, q = k + 1 := ⟨q - 1, by omega⟩
      clear h0
      have hlen : (List.replicate (k + 1) (0 : UInt8) ++ t).length = width := by rw [List.length_append, List.length_replicate]; exact H2.out
      have hkw : k < width := by have := H2.out; omega
      have hcell := hrow.cell (i := k) (by omega)
      have hfro := hrow.frozen (i := k) (by omega)
      have hset := hrow.set k (UInt8.ofNat (xn % 256))
      rw [show (List.replicate (k + 1) (0 : UInt8) ++ t).set k (UInt8.ofNat (xn % 256)) = List.replicate k 0 ++ (UInt8.ofNat (xn % 256) :: t) from by
        rw [show List.replicate (k + 1) (0 : UInt8) = List.replicate k 0 ++ [0] from List.replicate_succ', List.append_assoc, List.set_append_right _ _ (by simp)]
        simp, show (((UInt8.ofNat (xn % 256)).toNat : Nat) : Int) = (xn : Int) % 256 from by simp; try omega] at hset
      have HS := Lib.hid hset; clear hset hrow hlen
      have hk2 : (k : Int) < width := by omega
      have hk3 : (0 : Int) ≤ k := by omega
      obtain ⟨v0, hcell⟩ : ∃ v, wr.cell? ⟨g, k, none⟩ = some v := ⟨_, hcell⟩
      go_wp2
      go_roundw
      case rel => exact ⟨k, xn / 256, UInt8.ofNat (xn % 256) :: t, by omega, rfl, rfl, by omega, by have := H1.out; simp only [WM.be, List.append_assoc] at this; exact this, HS.out, hbr.out.setCell (Nat.le_refl _) _, by have := H2.out; show _ = _; simp only [List.length_cons]; omega⟩
      case measure => simp [intOf]

theorem refNumber_int (m width : Int) (w : World) (hm0 : 0 ≤ m) (hm : m < 18446744073709551616) (hw0 : 0 ≤ width) (hw : width ≤ 8) :
    Calls Try.prog 39 #[.int .u64 m, .int .i64 width] w fun e w' => e = .returned (.string (bs (WM.be width.toNat m.toNat))) ∧ Below w.heap.size w w' := by
  obtain ⟨m, rfl⟩ := Int.eq_ofNat_of_zero_le hm0
  obtain ⟨width, rfl⟩ := Int.eq_ofNat_of_zero_le hw0
  simp only [Int.toNat_natCast]
  exact refNumber_any m width w (by omega) (by omega)

end Go.Proofs.Ytbapifbahhjfgaa
