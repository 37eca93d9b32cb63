/- The reader's Bool and Text, at every state. -/
import Derived.Test.YtbapifbahhjfgaaWireNum
namespace Go.Proofs.Ytbapifbahhjfgaa
open Go.RowKit

set_option maxRecDepth 100000 in
set_option maxHeartbeats 1000000 in
theorem rdU64_any (g : Nat) (s : ByteArray) (st : WM.St) (w : World) (hr : RS TR w g s st) (hs : s.size ≤ 4611686018427387904) :
    Calls Try.prog 23 #[.pointer (some ⟨g, 0, none⟩)] w fun e w' =>
      e = .returned (.int .u64 ((WM.num s.data.toList 8 st).1 : Nat)) ∧ RS TR w' g s (WM.num s.data.toList 8 st).2 ∧ w.grownBy w' (some g) := by
  have HC := Lib.hid (number_any g 8 s st w hr hs (by omega))
  clear hr
  go_enter Try.func23, Try.ntmps23
  go_wp2_with fail
  refine HC.out.mono ?_
  rintro e w1 ⟨rfl, hr1, hg1⟩
  have HR := Lib.hid hr1; clear hr1
  go_wp2
  go_ret
  exact ⟨rfl, HR.out, hg1⟩

set_option maxRecDepth 100000 in
set_option maxHeartbeats 1000000 in
theorem fail_ok (g a e p : Nat) (s : ByteArray) (w : World) (hr : RB TR w g s a 0 0) :
    Calls Try.prog 43 #[.pointer (some ⟨g, 0, none⟩), .int .i64 e, .int .i64 p] w fun e' w' =>
      e' = .returned (.tuple #[]) ∧ RB TR w' g s a e p ∧ w.grownBy w' (some g) := by
  obtain ⟨c0, c1, c2, c3⟩ := hr.cells
  have f2 := hr.frozen 2
  have f3 := hr.frozen 3
  have H := Lib.hid hr; clear hr
  go_enter Try.func43, Try.ntmps43
  go_wp2
  go_end0
  exact ⟨rfl, (H.out.set2 e).set3 p, only_set (only_set (only_refl _ _) _ _) _ _⟩

theorem ret_b {a b : Bool} (h : a = b) : Ending.returned (.bool a) = .returned (.bool b) := by rw [h]

theorem RS.cell1 {t : TypeId} {w : World} {g : Nat} {s : ByteArray} {st : WM.St} (h : RS t w g s st) : ∃ a : Nat, a ≤ s.size ∧ w.cell? ⟨g, 1, none⟩ = some (.int .i64 a) := by
  cases st with
  | ok a => exact ⟨a, h.1, h.2.cells.2.1⟩
  | bad e p => exact ⟨p, h.2.2.1, h.2.2.2.cells.2.1⟩

set_option maxRecDepth 100000 in
set_option maxHeartbeats 1000000 in
theorem rdBool_any (g : Nat) (s : ByteArray) (st : WM.St) (w : World) (hr : RS TR w g s st) (hs : s.size ≤ 4611686018427387904) :
    Calls Try.prog 24 #[.pointer (some ⟨g, 0, none⟩)] w fun e w' =>
      e = .returned (.bool (WM.bool s.data.toList st).1) ∧ RS TR w' g s (WM.bool s.data.toList st).2 ∧ w.grownBy w' (some g) := by
  have hc := rdU8_any g s st w hr hs
  cases st with
  | bad e p =>
    obtain ⟨a, ha, c1⟩ := hr.cell1
    have HC := Lib.hid hc; clear hc hr
    show Calls Try.prog _ _ w fun e' w' => e' = .returned (.bool false) ∧ RS TR w' g s (.bad e p) ∧ _
    go_enter Try.func24, Try.ntmps24
    go_wp2_with fail
    refine HC.out.mono ?_
    rintro e w1 ⟨rfl, hr1, hg1⟩
    have HR := Lib.hid hr1; clear hr1
    simp only [WM.num]
    go_wp2
    go_ret
    exact ⟨rfl, HR.out, hg1⟩
  | ok a =>
    obtain ⟨c0, c1, c2, c3⟩ := hr.2.cells
    have ha := hr.1
    have hl := num_lt s.data.toList 1 (.ok a)
    cases hq : WM.num s.data.toList 1 (.ok a) with
    | mk n st2 =>
      rw [hq] at hc hl
      cases st2 with
      | bad e p =>
        have hb : WM.bool s.data.toList (.ok a) = (false, .bad e p) := by simp only [WM.bool, hq]
        have hn : n = 0 := by
          simp only [WM.num] at hq
          split at hq <;> simp at hq
          exact hq.1.symm
        subst hn
        rw [hb]
        have HC := Lib.hid hc; clear hc hr hq hl hb
        go_enter Try.func24, Try.ntmps24
        go_wp2_with fail
        refine HC.out.mono ?_
        rintro e w1 ⟨rfl, hr1, hg1⟩
        have HR := Lib.hid hr1; clear hr1
        go_wp2
        go_ret
        exact ⟨rfl, HR.out, hg1⟩
      | ok b =>
        have hl2 : n < 256 := by simpa using hl
        by_cases h1 : 1 < n
        · have hb : WM.bool s.data.toList (.ok a) = (false, .bad 7 a) := by simp only [WM.bool, hq]; rw [if_pos h1]
          rw [hb]
          have HC := Lib.hid hc; clear hc hr hq hl hb
          have e1 : decide ((1 : Int) < n) = true := by simp; omega
          have e2 : ((n : Int) == 1) = false := by rw [beq_eq_false_iff_ne]; omega
          go_enter Try.func24, Try.ntmps24
          go_wp2_with fail
          refine HC.out.mono ?_
          rintro e w1 ⟨rfl, hr1, hg1⟩
          obtain ⟨d0, d1, d2, d3⟩ := hr1.2.cells
          have f1 := hr1.2.frozen 1
          have hr2 := hr1.2.set1 a
          have hg2 := only_set hg1 1 (.int .i64 a)
          have HG := Lib.hid hg2
          have HF := Lib.hid (fail_ok g a 7 a s _ hr2)
          clear hr1 hr2 hg1 hg2
          go_wp2_with fail
          refine HF.out.mono ?_
          rintro e w2 ⟨rfl, hr3, hg3⟩
          go_wp2
          go_ret
          exact ⟨rfl, ⟨by omega, by omega, ha, hr3⟩, only_trans HG.out hg3⟩
        · have hb : WM.bool s.data.toList (.ok a) = (n == 1, .ok b) := by simp only [WM.bool, hq]; rw [if_neg h1]
          rw [hb]
          have HC := Lib.hid hc; clear hc hr hq hl hb
          have e1 : decide ((1 : Int) < n) = false := by simp; omega
          go_enter Try.func24, Try.ntmps24
          go_wp2_with fail
          refine HC.out.mono ?_
          rintro e w1 ⟨rfl, hr1, hg1⟩
          have HR := Lib.hid hr1; clear hr1
          go_wp2
          go_ret
          exact ⟨ret_b (by rw [Bool.eq_iff_iff]; simp; omega), HR.out, hg1⟩

theorem num_ok_short {l : List UInt8} {k a : Nat} (h : l.length < a + k) (ha : a ≤ l.length) : WM.num l k (.ok a) = (0, .bad 7 a) := by
  simp only [WM.num]; rw [if_pos (by omega)]
theorem num_ok_long {l : List UInt8} {k a : Nat} (h : a + k ≤ l.length) : WM.num l k (.ok a) = (WM.val ((l.drop a).take k), .ok (a + k)) := by
  simp only [WM.num]; rw [if_neg (by omega)]

set_option maxRecDepth 100000 in
set_option maxHeartbeats 2000000 in
theorem rdText_any (g : Nat) (most : Int) (s : ByteArray) (st : WM.St) (w : World) (hr : RS TR w g s st) (hs : s.size ≤ 4611686018427387904) :
    Calls Try.prog 26 #[.pointer (some ⟨g, 0, none⟩), .int .i64 most] w fun e w' =>
      e = .returned (.string (bs (WM.textR s.data.toList most st).1)) ∧ RS TR w' g s (WM.textR s.data.toList most st).2 ∧ w.grownBy w' (some g) := by
  have hc := rdU32_any g s st w hr hs
  cases st with
  | bad e p =>
    obtain ⟨h1, h2, hp, hr⟩ := hr
    obtain ⟨c0, c1, c2, c3⟩ := hr.cells
    have HC := Lib.hid hc; clear hc hr
    have e1 : ((e : Int) == 0) = false := by rw [beq_eq_false_iff_ne]; omega
    show Calls Try.prog _ _ w fun e' w' => e' = .returned (.string (bs [])) ∧ RS TR w' g s (.bad e p) ∧ _
    go_enter Try.func26, Try.ntmps26
    go_wp2_with fail
    refine HC.out.mono ?_
    rintro e' w1 ⟨rfl, hr1, hg1⟩
    simp only [WM.num] at hr1 ⊢
    have hr1' := hr1.2.2.2
    obtain ⟨d0, d1, d2, d3⟩ := hr1'.cells
    have HR := Lib.hid hr1; clear hr1
    have HT := Lib.hid (take_bad g p 0 e p s w1 hr1' h1)
    clear hr1'
    go_wp2_with fail
    refine HT.out.mono ?_
    rintro e' w2 ⟨rfl, rfl⟩
    go_wp2
    go_ret
    exact ⟨rfl, HR.out, hg1⟩
  | ok a =>
    obtain ⟨ha, hr⟩ := hr
    obtain ⟨c0, c1, c2, c3⟩ := hr.cells
    by_cases hsh : s.size < a + 4
    · have hn := num_ok_short (l := s.data.toList) (k := 4) hsh ha
      have hx : WM.textR s.data.toList most (.ok a) = ([], .bad 7 a) := by simp only [WM.textR, hn]
      rw [hx]
      rw [hn] at hc
      have HC := Lib.hid hc; clear hc hr hn hx
      go_enter Try.func26, Try.ntmps26
      go_wp2_with fail
      refine HC.out.mono ?_
      rintro e' w1 ⟨rfl, hr1, hg1⟩
      have hr1' := hr1.2.2.2
      obtain ⟨d0, d1, d2, d3⟩ := hr1'.cells
      have HR := Lib.hid hr1; clear hr1
      have HT := Lib.hid (take_bad g a 0 7 a s w1 hr1' (by omega))
      clear hr1'
      go_wp2_with fail
      refine HT.out.mono ?_
      rintro e' w2 ⟨rfl, rfl⟩
      go_wp2
      go_ret
      exact ⟨rfl, HR.out, hg1⟩
    · have hn := num_ok_long (l := s.data.toList) (k := 4) (a := a) (by show a + 4 ≤ s.size; omega)
      have hlt := num_lt s.data.toList 4 (.ok a)
      rw [hn] at hc hlt
      generalize hn' : WM.val ((s.data.toList.drop a).take 4) = n at *
      have hn2 : n < 4294967296 := by simpa using hlt
      clear hlt hn'
      by_cases hm : most < n
      · have hx : WM.textR s.data.toList most (.ok a) = ([], .bad 3 a) := by simp only [WM.textR, hn]; rw [if_pos hm]
        rw [hx]
        have HC := Lib.hid hc; clear hc hr hn hx
        have e1 : decide (most < (n : Int)) = true := by simp; omega
        go_enter Try.func26, Try.ntmps26
        go_wp2_with fail
        refine HC.out.mono ?_
        rintro e' w1 ⟨rfl, hr1, hg1⟩
        obtain ⟨d0, d1, d2, d3⟩ := hr1.2.cells
        have HF := Lib.hid (fail_ok g (a + 4) 3 a s w1 hr1.2)
        clear hr1
        go_wp2_with fail
        refine HF.out.mono ?_
        rintro e' w2 ⟨rfl, hr2, hg2⟩
        have HG := Lib.hid (only_trans hg1 hg2)
        obtain ⟨b0, b1, b2, b3⟩ := hr2.cells
        have f1 := hr2.frozen 1
        have f3 := hr2.frozen 3
        have HT := Lib.hid (take_bad g (a + 4) n 3 a s w2 hr2 (by omega))
        have H2 := Lib.hid hr2
        clear hr2 hg1 hg2 d0 d1 d2 d3 c0 c1 c2 c3
        go_wp2_with fail
        refine HT.out.mono ?_
        rintro e' w3 ⟨rfl, rfl⟩
        go_wp2
        go_ret
        exact ⟨rfl, ⟨by omega, by omega, ha, (H2.out.set1 a).set3 a⟩, only_set (only_set HG.out _ _) _ _⟩
      · have e1 : decide (most < (n : Int)) = false := by simp; omega
        by_cases hsz : s.size < a + 4 + n
        · have hx : WM.textR s.data.toList most (.ok a) = ([], .bad 7 a) := by
            simp only [WM.textR, hn, size_len]; rw [if_neg hm, if_pos (by omega)]
          rw [hx]
          have HC := Lib.hid hc; clear hc hr hn hx
          go_enter Try.func26, Try.ntmps26
          go_wp2_with fail
          refine HC.out.mono ?_
          rintro e' w1 ⟨rfl, hr1, hg1⟩
          obtain ⟨d0, d1, d2, d3⟩ := hr1.2.cells
          have HT := Lib.hid (take_short g (a + 4) n s w1 hr1.2 hs (by omega) (by omega))
          clear hr1
          go_wp2_with fail
          refine HT.out.mono ?_
          rintro e' w2 ⟨rfl, hr2, hg2⟩
          have HG := Lib.hid (only_trans hg1 hg2)
          obtain ⟨b0, b1, b2, b3⟩ := hr2.cells
          have f1 := hr2.frozen 1
          have f3 := hr2.frozen 3
          have H2 := Lib.hid hr2
          clear hr2 hg1 hg2 d0 d1 d2 d3 c0 c1 c2 c3
          go_wp2
          go_ret
          exact ⟨rfl, ⟨by omega, by omega, ha, (H2.out.set1 a).set3 a⟩, only_set (only_set HG.out _ _) _ _⟩
        · have hx : WM.textR s.data.toList most (.ok a) = ((s.data.toList.drop (a + 4)).take n, .ok (a + 4 + n)) := by
            simp only [WM.textR, hn, size_len]; rw [if_neg hm, if_neg (by omega)]
          have hxb : bs ((s.data.toList.drop (a + 4)).take n) = s.extract (a + 4) (a + 4 + n) := by
            rw [← bs_of (s.extract (a + 4) (a + 4 + n)), Lib.extract_data]
            congr 2; omega
          rw [hx]
          have HC := Lib.hid hc; have HX := Lib.hid hxb; clear hc hr hn hx hxb
          go_enter Try.func26, Try.ntmps26
          go_wp2_with fail
          refine HC.out.mono ?_
          rintro e' w1 ⟨rfl, hr1, hg1⟩
          obtain ⟨d0, d1, d2, d3⟩ := hr1.2.cells
          have HT := Lib.hid (take_ok g (a + 4) n s w1 hr1.2 hs (by omega))
          clear hr1
          go_wp2_with fail
          refine HT.out.mono ?_
          rintro e' w2 ⟨rfl, hr2, hg2⟩
          have HG := Lib.hid (only_trans hg1 hg2)
          have H2 := Lib.hid hr2
          clear hr2 hg1 hg2 d0 d1 d2 d3 c0 c1 c2 c3
          go_wp2
          go_ret
          refine ⟨?_, ⟨by omega, H2.out⟩, HG.out⟩
          rw [HX.out]; rfl

end Go.Proofs.Ytbapifbahhjfgaa
