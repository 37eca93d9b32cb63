/- The reader's numbers: number, U8, U32, U64, fail, at every state. -/
import Derived.Test.YtbapifbahhjfgaaWireRd
import Derived.Lib.Strings
namespace Go.Proofs.Ytbapifbahhjfgaa
open Go.RowKit

theorem int_val {k : IntKind} {a b : Int} (h : a = b) : Value.int k a = .int k b := by rw [h]

theorem take_snoc8 (s : ByteArray) (k : Nat) (h : k < s.size) : s.data.toList.take (k + 1) = s.data.toList.take k ++ [s[k]] := by
  rw [List.take_succ_eq_append_getElem (by simpa using h)]; rfl

set_option maxRecDepth 100000 in
set_option maxHeartbeats 1000000 in
theorem number_ok (g a k : Nat) (s : ByteArray) (w : World) (hr : RB TR w g s a 0 0) (hs : s.size ≤ 4611686018427387904) (hk : a + k ≤ s.size) (h8 : k ≤ 8) :
    Calls Try.prog 42 #[.pointer (some ⟨g, 0, none⟩), .int .i64 k] w fun e w' =>
      e = .returned (.int .u64 (WM.val ((s.data.toList.drop a).take k) : Nat)) ∧ RB TR w' g s (a + k) 0 0 ∧ w.grownBy w' (some g) := by
  have hL : (s.extract a (a + k)).data.toList = (s.data.toList.drop a).take k := by
    rw [Lib.extract_data]; simp
  have hz : (s.extract a (a + k)).size = k := by simp; omega
  have HL := Lib.hid hL; clear hL
  go_enter Try.func42, Try.ntmps42
  go_wp2_with fail
  refine (take_ok g a k s _ hr hs hk).mono ?_
  rintro e w1 ⟨rfl, hr1, hg1⟩
  have HR := Lib.hid hr1; have HG := Lib.hid hg1; clear hr hr1 hg1
  generalize s.extract a (a + k) = T at *
  have HZ := Lib.hid hz; clear hz
  go_wp2
  go_loop [7, 19] (fun x i => ∃ j : Nat, j ≤ k ∧ i = .int .i64 j ∧ x = .int .u64 (WM.val (T.data.toList.take j) : Nat)) (fun _ i => k - (intOf i).toNat)
  case atStart => exact ⟨0, by omega, rfl, rfl⟩
  case round =>
    obtain ⟨j, hj, rfl, rfl⟩ := hrel
    have hzz : T.size = k := HZ.out
    by_cases hlt : j < k
    · have hjT : j < T.size := by omega
      have hsn := WM.val_snoc (T.data.toList.take j) T[j]
      rw [← take_snoc8 T j hjT] at hsn
      have HS := Lib.hid hsn; clear hsn
      have hlt3 := WM.val_lt (T.data.toList.take j)
      have hpow : 256 ^ (T.data.toList.take j).length ≤ 72057594037927936 := by
        have h1 : (T.data.toList.take j).length ≤ 7 := by
          have := List.length_take_le j T.data.toList; omega
        calc 256 ^ (T.data.toList.take j).length ≤ 256 ^ 7 := Nat.pow_le_pow_right (by omega) h1
          _ = 72057594037927936 := by decide
      have hx : WM.val (T.data.toList.take j) < 72057594037927936 := by omega
      have hc : T[j].toNat < 256 := T[j].toNat_lt
      clear hlt3 hpow
      have hjk : (j : Int) < T.size := by omega
      generalize WM.val (T.data.toList.take j) = X at *
      have ho : bits BinOp.or IntKind.u64 ((X : Int) * 256) (T[j].toNat : Int) = ((X * 256 + T[j].toNat : Nat) : Int) := by
        have := u64_or_nat (X * 256) T[j].toNat (by omega) (by omega)
        rw [nat_join 8 (X * 256) T[j].toNat (by omega) hc] at this
        rw [← this]; simp
      clear hzz
      go_wp2
      go_round
      case rel => exact ⟨j + 1, by omega, by go_num, by rw [HS.out]; exact int_val (by omega)⟩
      case measure => simp [intOf]; omega
    · have hjk : j = T.size := by omega
      have hjl : (j : Int) = T.size := by omega
      have hv : T.data.toList.take j = T.data.toList := by rw [List.take_of_length_le (by show T.size ≤ j; omega)]
      rw [hv]
      rw [HL.out]
      clear hv hzz
      have hge : ¬ ((j : Int) < T.size) := by omega
      clear hjk hjl
      go_wp2
      go_ret
      exact ⟨rfl, HR.out, HG.out⟩

theorem size_len (s : ByteArray) : s.data.toList.length = s.size := rfl

set_option maxRecDepth 100000 in
set_option maxHeartbeats 1000000 in
theorem number_any (g k : Nat) (s : ByteArray) (st : WM.St) (w : World) (hr : RS TR w g s st) (hs : s.size ≤ 4611686018427387904) (h8 : k ≤ 8) :
    Calls Try.prog 42 #[.pointer (some ⟨g, 0, none⟩), .int .i64 k] w fun e w' =>
      e = .returned (.int .u64 ((WM.num s.data.toList k st).1 : Nat)) ∧ RS TR w' g s (WM.num s.data.toList k st).2 ∧ w.grownBy w' (some g) := by
  cases st with
  | ok a =>
    obtain ⟨ha, hr⟩ := hr
    by_cases hk : s.size < a + k
    · have hn : WM.num s.data.toList k (.ok a) = (0, .bad 7 a) := by
        simp only [WM.num, size_len]; rw [if_pos (by omega)]
      rw [hn]
      go_enter Try.func42, Try.ntmps42
      go_wp2_with fail
      refine (take_short g a k s _ hr hs ha hk).mono ?_
      rintro e w1 ⟨rfl, hr1, hg1⟩
      go_wp2
      go_ret
      exact ⟨rfl, ⟨by omega, by omega, ha, hr1⟩, hg1⟩
    · have hn : WM.num s.data.toList k (.ok a) = (WM.val ((s.data.toList.drop a).take k), .ok (a + k)) := by
        simp only [WM.num, size_len]; rw [if_neg (by omega)]
      rw [hn]
      refine (number_ok g a k s w hr hs (by omega) h8).mono ?_
      rintro e w1 ⟨rfl, hr1, hg1⟩
      exact ⟨rfl, ⟨by omega, hr1⟩, hg1⟩
  | bad e p =>
    obtain ⟨h1, h2, hp, hr⟩ := hr
    show Calls Try.prog _ _ w fun e' w' => e' = .returned (.int .u64 ((0 : Nat) : Int)) ∧ RS TR w' g s (.bad e p) ∧ _
    go_enter Try.func42, Try.ntmps42
    go_wp2_with fail
    refine (take_bad g p k e p s _ hr h1).mono ?_
    rintro e w1 ⟨rfl, rfl⟩
    go_wp2
    go_ret
    exact ⟨rfl, ⟨h1, h2, hp, hr⟩, only_refl _ _⟩

set_option maxHeartbeats 1000000 in
theorem number_nil (k : Int) (w : World) :
    Calls Try.prog 42 #[.pointer none, .int .i64 k] w fun e w' => e = .returned (.int .u64 0) ∧ w = w' := by
  go_enter Try.func42, Try.ntmps42
  go_wp2_with fail
  refine (take_nil k _).mono ?_
  rintro e w1 ⟨rfl, rfl⟩
  go_wp2
  go_ret
  exact ⟨rfl, rfl⟩

theorem num_lt (s : List UInt8) (k : Nat) (st : WM.St) : (WM.num s k st).1 < 256 ^ k := by
  cases st with
  | ok a =>
    simp only [WM.num]
    split
    · exact Nat.pow_pos (by omega)
    · have := WM.val_lt ((s.drop a).take k)
      have h2 : ((s.drop a).take k).length = k := by simp; omega
      rw [h2] at this; exact this
  | bad e p => exact Nat.pow_pos (by omega)

set_option maxRecDepth 100000 in
set_option maxHeartbeats 1000000 in
theorem rdU8_any (g : Nat) (s : ByteArray) (st : WM.St) (w : World) (hr : RS TR w g s st) (hs : s.size ≤ 4611686018427387904) :
    Calls Try.prog 21 #[.pointer (some ⟨g, 0, none⟩)] w fun e w' =>
      e = .returned (.int .u8 ((WM.num s.data.toList 1 st).1 : Nat)) ∧ RS TR w' g s (WM.num s.data.toList 1 st).2 ∧ w.grownBy w' (some g) := by
  have hl := num_lt s.data.toList 1 st
  have hc := number_any g 1 s st w hr hs (by omega)
  obtain ⟨r, hq⟩ : ∃ r, WM.num s.data.toList 1 st = r := ⟨_, rfl⟩
  rw [hq] at hl hc ⊢
  have HC := Lib.hid hc
  have hl2 : r.1 < 256 := by simpa using hl
  clear hc hq hl hr
  go_enter Try.func21, Try.ntmps21
  go_wp2_with fail
  refine HC.out.mono ?_
  rintro e w1 ⟨rfl, hr1, hg1⟩
  have HR := Lib.hid hr1; clear hr1
  go_wp2
  go_ret
  exact ⟨rfl, HR.out, hg1⟩

set_option maxRecDepth 100000 in
set_option maxHeartbeats 1000000 in
theorem rdU32_any (g : Nat) (s : ByteArray) (st : WM.St) (w : World) (hr : RS TR w g s st) (hs : s.size ≤ 4611686018427387904) :
    Calls Try.prog 25 #[.pointer (some ⟨g, 0, none⟩)] w fun e w' =>
      e = .returned (.int .u32 ((WM.num s.data.toList 4 st).1 : Nat)) ∧ RS TR w' g s (WM.num s.data.toList 4 st).2 ∧ w.grownBy w' (some g) := by
  have hl := num_lt s.data.toList 4 st
  have hc := number_any g 4 s st w hr hs (by omega)
  obtain ⟨r, hq⟩ : ∃ r, WM.num s.data.toList 4 st = r := ⟨_, rfl⟩
  rw [hq] at hl hc ⊢
  have HC := Lib.hid hc
  have hl2 : r.1 < 4294967296 := by simpa using hl
  clear hc hq hl hr
  go_enter Try.func25, Try.ntmps25
  go_wp2_with fail
  refine HC.out.mono ?_
  rintro e w1 ⟨rfl, hr1, hg1⟩
  have HR := Lib.hid hr1; clear hr1
  go_wp2
  go_ret
  exact ⟨rfl, HR.out, hg1⟩

end Go.Proofs.Ytbapifbahhjfgaa
