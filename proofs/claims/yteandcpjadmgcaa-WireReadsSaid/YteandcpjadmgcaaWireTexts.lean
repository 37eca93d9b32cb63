/- Texts, written by package wire and by the document (dragomanref01): every list of texts of at most 2^20 bytes together. -/
import Derived.Test.YteandcpjadmgcaaWireEnc2
import Derived.Test.YteandcpjadmgcaaBuf
namespace Go.Proofs.Yteandcpjadmgcaa
open Go.RowKit

/-- the slice '.slice A n c' (n texts) reads as the texts ss, below block B -/
def SArg (w : World) (B : Nat) (A : Option Addr) (ss : List ByteArray) : Prop :=
  0 < ss.length → ∃ ad, A = some ad ∧ ad.block < B ∧ ∀ j s, ss[j]? = some s → w.cell? (ad.add j) = some (.string s)

theorem block_add (a : Addr) (n : Nat) : (a.add n).block = a.block := by unfold Addr.add; split <;> rfl

theorem SArg.below {w w' : World} {B B' : Nat} {A : Option Addr} {ss : List ByteArray} (h : SArg w B A ss) (hb : Below B' w w') (hB : B ≤ B') : SArg w' B A ss := fun hn => by
  obtain ⟨ad, e, hlt, hc⟩ := h hn
  exact ⟨ad, e, hlt, fun j s hj => (hb.cell (by rw [block_add]; omega)).trans (hc j s hj)⟩
theorem SArg.at_ {w : World} {B : Nat} {A : Option Addr} {ss : List ByteArray} (h : SArg w B A ss) {k : Nat} (hk : k < ss.length) : ∃ ad, A = some ad ∧ ad.block < B ∧ w.cell? (ad.add k) = some (.string ss[k]) := by
  obtain ⟨ad, e, hlt, hc⟩ := h (by omega)
  exact ⟨ad, e, hlt, hc k _ (List.getElem?_eq_getElem hk)⟩

/-- how many bytes texts have together -/
def total (ss : List ByteArray) : Nat := (ss.map ByteArray.size).sum
theorem total_snoc (ss : List ByteArray) (k : Nat) (h : k < ss.length) : total (ss.take (k + 1)) = total (ss.take k) + ss[k].size := by
  simp only [total]
  rw [List.take_succ_eq_append_getElem h, List.map_append, List.sum_append]; simp
theorem total_take_le (ss : List ByteArray) (k : Nat) : total (ss.take k) ≤ total ss := by
  have h : total ss = total (ss.take k) + total (ss.drop k) := by
    conv => lhs; rw [← List.take_append_drop k ss]
    simp only [total]
    rw [List.map_append, List.sum_append]
  omega
theorem total_at_le (ss : List ByteArray) (k : Nat) (h : k < ss.length) : total (ss.take k) + ss[k].size ≤ total ss := by
  rw [← total_snoc ss k h]; exact total_take_le ss _

def lists (ss : List ByteArray) : List (List UInt8) := ss.map fun s => s.data.toList
theorem lists_len (ss : List ByteArray) : (lists ss).length = ss.length := by simp [lists]

/-- the bytes behind k texts -/
def sofar (ss : List ByteArray) (k : Nat) : List UInt8 := WM.be 4 ss.length ++ ((lists (ss.take k)).map WM.text).flatten
theorem sofar_zero (ss : List ByteArray) : sofar ss 0 = WM.be 4 ss.length := by simp [sofar, lists]
theorem sofar_all (ss : List ByteArray) : sofar ss ss.length = WM.texts (lists ss) := by simp [sofar, WM.texts, lists]
theorem sofar_succ (ss : List ByteArray) (k : Nat) (h : k < ss.length) : sofar ss (k + 1) = sofar ss k ++ WM.text ss[k].data.toList := by
  simp only [sofar, lists]
  rw [List.take_succ_eq_append_getElem h, List.map_append, List.map_append, List.flatten_append, List.append_assoc]
  simp
theorem sofar_len (ss : List ByteArray) (k : Nat) (h : k ≤ ss.length) : (sofar ss k).length = 4 + 4 * k + total (ss.take k) := by
  induction k with
  | zero => rw [sofar_zero, WM.be_len]; rfl
  | succ k ih =>
    have hk : k < ss.length := by omega
    rw [sofar_succ ss k hk, List.length_append, ih (by omega), total_snoc ss k hk]
    simp only [WM.text, List.length_append, WM.be_len]
    have : ss[k].data.toList.length = ss[k].size := rfl
    omega

theorem info_u8' : ∃ i, Try.prog.info? 5 = some i ∧ i.zero = some (.int .u8 0) ∧ i.size = 1 ∧ i.bytes = 1 := info_parts info_u8

set_option maxRecDepth 100000 in
set_option maxHeartbeats 2000000 in
theorem refTexts_any (A : Option Addr) (c : Nat) (ss : List ByteArray) (w : World) (ha : SArg w w.heap.size A ss) (hn : ss.length ≤ 1048576) (ht : total ss ≤ 1048576) :
    Calls Try.prog 17 #[.slice A ss.length c] w fun e w' => e = .returned (.string (bs (WM.texts (lists ss)))) ∧ Below w.heap.size w w' := by
  obtain ⟨i0, hi0, hz0, hz1, hz2⟩ := info_u8'
  have hconv := fun w s => Lib.run_convert_string_bytes (P := Try.prog) w 9 60 5 s Try.underlying9 Try.underlying60 Try.underlying5
  go_enter Try.func17, Try.ntmps17
  go_wp2_with fail
  refine (refNumber_int _ _ _ (by omega) (by omega) (by omega) (by omega)).mono ?_
  rintro e w1 ⟨rfl, hb1⟩
  simp only [Int.toNat_natCast]
  rw [show (4 : Int).toNat = 4 from rfl]
  go_wp2
  have ho := OBuf.new (base := w.heap.size) w1 (bs (WM.be 4 ss.length)) hb1.size
  rw [bs_list] at ho
  have hbW : Below w.heap.size w (Lib.bytesWorld w1 5 (bs (WM.be 4 ss.length))) := hb1.trans ((below_bytesWorld w1 _).mono hb1.size)
  generalize Lib.bytesWorld w1 5 (bs (WM.be 4 ss.length)) = W at ho hbW ⊢
  generalize (Value.slice (some ⟨w1.heap.size, 0, none⟩) (bs (WM.be 4 ss.length)).size (grownCap w1 (bs (WM.be 4 ss.length)).size 0 5)) = v0 at ho ⊢
  rw [← sofar_zero ss] at ho
  clear hconv
  go_loopw [3, 4] (fun v i wr => ∃ k : Nat, k ≤ ss.length ∧ i = .int .i64 k ∧ OBuf wr w.heap.size v (sofar ss k) ∧ Below w.heap.size w wr) (fun _ i _ => ss.length - (intOf i).toNat)
  case atStart => exact ⟨0, by omega, rfl, ho, hbW⟩
  case round =>
    obtain ⟨k, hk, rfl, ho, hbr⟩ := hrel
    by_cases hlt : k < ss.length
    · obtain ⟨ad, rfl, hadb, hcell⟩ := (ha.below hbr (Nat.le_refl _)).at_ hlt
      have hsz : ss[k].size ≤ 1048576 := by have := total_at_le ss k hlt; omega
      have hlen := sofar_len ss k (by omega)
      have htot := total_take_le ss k
      have HO := Lib.hid ho; have HBe := Lib.hid hbr; clear ho hbr ha
      have hlt2 : (k : Int) < ss.length := by omega
      have hlen2 : (sofar ss k).length ≤ 8388612 := by omega
      have hs2 := sofar_succ ss k hlt
      have HS := Lib.hid hs2; have HL := Lib.hid hlen; clear hs2 hlen
      generalize hsk : ss[k] = s at *
      clear hsk
      go_wp2_with fail
      refine (refText_any _ _ hsz).mono ?_
      rintro e w2 ⟨rfl, hb2⟩
      have ho2 := OBuf.below HO.out hb2
      have hbr2 := HBe.out.trans (hb2.mono HBe.out.size)
      have htl : (bs (WM.text s.data.toList)).size ≤ 1048580 := by
        rw [bs_size]
        simp only [WM.text, List.length_append, WM.be_len]
        have : s.data.toList.length = s.size := rfl
        omega
      go_wp2_with (at_builtin; refine wpList_append_obuf rfl (.tmp 16) (.tmp 21) 60 9 rfl w.heap.size i0 Try.underlying60 Try.underlying9 hi0 hz0 hz1 hz2 u3 (sofar ss k) rfl ho2 (bs (WM.text s.data.toList)) rfl (by omega) hbr2.size ?_; intro v3 w3 ho3 hg3)
      refine ⟨⟨k + 1, by omega, by go_num, by rw [HS.out]; exact ho3, hbr2.grown hg3 hbr2.size (fun g hg => (ho2.lt g hg).1)⟩, by simp [intOf]; omega⟩
    · have hke : k = ss.length := by omega
      rw [hke, sofar_all] at ho
      have hstr := ho.str 60 9 5 Try.underlying60 Try.underlying5 Try.underlying9
      have hstr2 : (convert 60 9 u3).run Try.prog wr = .ok (.string (bs (WM.texts (lists ss)))) wr := hstr
      clear hstr ho ha hke
      go_wp2
      go_ret
      exact ⟨rfl, hbr⟩

theorem total_take_last (ss : List ByteArray) (k : Nat) (h : ss.length ≤ k) : total (ss.take k) = total ss := by rw [List.take_of_length_le h]

set_option maxRecDepth 100000 in
set_option maxHeartbeats 2000000 in
theorem wireTexts_any (A : Option Addr) (c : Nat) (ss : List ByteArray) (w : World) (ha : SArg w w.heap.size A ss) (hn : ss.length ≤ 1048576) (ht : total ss ≤ 1048576) :
    Calls Try.prog 11 #[.slice A ss.length c] w fun e w' => e = .returned (.tuple #[.string (bs (WM.texts (lists ss))), .int .i64 0]) ∧ Below w.heap.size w w' := by
  obtain ⟨i0, hi0, hz0, hz1, hz2⟩ := info_u8'
  have hconv := fun w s => Lib.run_convert_string_bytes (P := Try.prog) w 9 60 5 s Try.underlying9 Try.underlying60 Try.underlying5
  have hn1 : decide (1048576 < (ss.length : Int)) = false := by simp; omega
  go_enter Try.func11, Try.ntmps11
  go_wp2
  go_loop [4, 12] (fun al i => ∃ k : Nat, k ≤ ss.length ∧ i = .int .i64 k ∧ al = .int .i64 (total (ss.take k) : Nat)) (fun _ i => ss.length - (intOf i).toNat)
  case atStart => exact ⟨0, by omega, rfl, rfl⟩
  case round =>
    obtain ⟨k, hk, rfl, rfl⟩ := hrel
    by_cases hlt : k < ss.length
    · obtain ⟨ad, rfl, hadb, hcell⟩ := ha.at_ hlt
      have hsn := total_snoc ss k hlt
      have hle := total_at_le ss k hlt
      have HS := Lib.hid hsn; clear hsn ha
      have hlt2 : (k : Int) < ss.length := by omega
      generalize hsk : ss[k] = s at *
      clear hsk
      generalize total (ss.take k) = T at *
      have hd : decide ((1048576 : Int) - T < s.size) = false := by simp; omega
      go_wp2
      go_round
      case rel => exact ⟨k + 1, by omega, by go_num, by rw [HS.out]; go_num⟩
      case measure => simp [intOf]; omega
    · go_wp2_with fail
      refine (wireU32_any _ _ (by omega) (by omega)).mono ?_
      rintro e w1 ⟨rfl, hb1⟩
      simp only [Int.toNat_natCast]
      go_wp2
      have ho := OBuf.new (base := w.heap.size) w1 (bs (WM.be 4 ss.length)) hb1.size
      rw [bs_list] at ho
      have hbW : Below w.heap.size w (Lib.bytesWorld w1 5 (bs (WM.be 4 ss.length))) := hb1.trans ((below_bytesWorld w1 _).mono hb1.size)
      generalize Lib.bytesWorld w1 5 (bs (WM.be 4 ss.length)) = W at ho hbW ⊢
      generalize (Value.slice (some ⟨w1.heap.size, 0, none⟩) (bs (WM.be 4 ss.length)).size (grownCap w1 (bs (WM.be 4 ss.length)).size 0 5)) = v0 at ho ⊢
      rw [← sofar_zero ss] at ho
      clear hconv
      go_loopw [7, 36] (fun v i wr => ∃ k : Nat, k ≤ ss.length ∧ i = .int .i64 k ∧ OBuf wr w.heap.size v (sofar ss k) ∧ Below w.heap.size w wr) (fun _ i _ => ss.length - (intOf i).toNat)
      case atStart => exact ⟨0, by omega, rfl, ho, hbW⟩
      case round =>
        obtain ⟨k, hk, rfl, ho, hbr⟩ := hrel
        by_cases hlt : k < ss.length
        · obtain ⟨ad, rfl, hadb, hcell⟩ := (ha.below hbr (Nat.le_refl _)).at_ hlt
          have hsz : ss[k].size ≤ 1048576 := by have := total_at_le ss k hlt; omega
          have hlen := sofar_len ss k (by omega)
          have htot := total_take_le ss k
          have HO := Lib.hid ho; have HBe := Lib.hid hbr; clear ho hbr ha
          have hlt2 : (k : Int) < ss.length := by omega
          have hlen2 : (sofar ss k).length ≤ 8388612 := by omega
          have hs2 := sofar_succ ss k hlt
          have HS := Lib.hid hs2; have HL := Lib.hid hlen; clear hs2 hlen
          generalize hsk : ss[k] = s at *
          clear hsk
          go_wp2_with fail
          refine (wireU32_any _ _ (by omega) (by omega)).mono ?_
          rintro e w2 ⟨rfl, hb2⟩
          simp only [Int.toNat_natCast]
          have ho2 := OBuf.below HO.out hb2
          have hbr2 := HBe.out.trans (hb2.mono HBe.out.size)
          have hzz := bs_size (WM.be 4 s.size)
          rw [WM.be_len] at hzz
          have HZ := Lib.hid hzz
          go_wp2_with (first
            | (at_builtin; refine wpList_append_obuf rfl (.tmp 40) (.tmp 44) 60 9 rfl w.heap.size i0 Try.underlying60 Try.underlying9 hi0 hz0 hz1 hz2 u7 (sofar ss k) rfl ho2 (bs (WM.be 4 s.size)) rfl (by omega) hbr2.size ?_; intro v3 w3 ho3 hg3; have hbr3 := hbr2.grown hg3 hbr2.size (fun g hg => (ho2.lt g hg).1); have hl3 : (sofar ss k ++ (bs (WM.be 4 s.size)).data.toList).length ≤ 8388616 := by { rw [List.length_append, bs_list, WM.be_len]; omega })
            | (at_builtin; refine wpList_append_obuf rfl (.tmp 46) (.tmp 47) 60 9 rfl w.heap.size i0 Try.underlying60 Try.underlying9 hi0 hz0 hz1 hz2 v3 _ rfl ho3 s rfl (by omega) hbr3.size ?_; intro v4 w4 ho4 hg4))
          refine ⟨⟨k + 1, by omega, by go_num, ?_, hbr3.grown hg4 hbr3.size (fun g hg => (ho3.lt g hg).1)⟩, by simp [intOf]; omega⟩
          rw [HS.out]
          rw [List.append_assoc] at ho4
          exact ho4
        · have hke : k = ss.length := by omega
          rw [hke, sofar_all] at ho
          have hstr := ho.str 60 9 5 Try.underlying60 Try.underlying5 Try.underlying9
          have hstr2 : (convert 60 9 u7).run Try.prog wr = .ok (.string (bs (WM.texts (lists ss)))) wr := hstr
          clear hstr ho ha hke
          go_wp2
          go_ret2
          exact ⟨rfl, hbr⟩

end Go.Proofs.Yteandcpjadmgcaa
