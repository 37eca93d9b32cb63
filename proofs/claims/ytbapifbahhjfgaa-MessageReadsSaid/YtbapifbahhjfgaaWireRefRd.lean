/- The document's reader (dragomanref01.Reader): Number, Bool, Text, Texts, Rest, End, at every state. -/
import Derived.Test.YtbapifbahhjfgaaWireNumOk
namespace Go.Proofs.Ytbapifbahhjfgaa
open Go.RowKit

abbrev TQ : TypeId := 66

/-- where the document's reader in block g stands: behind a fault its place is any -/
def RQ (w : World) (g : Nat) (s : ByteArray) : WM.St → Prop
  | .ok a => a ≤ s.size ∧ RB TQ w g s a 0 0
  | .bad e p => 1 ≤ e ∧ e ≤ 9 ∧ p ≤ s.size ∧ ∃ a, a ≤ s.size ∧ RB TQ w g s a e p

theorem RQ.lt {w : World} {g : Nat} {s : ByteArray} {st : WM.St} (h : RQ w g s st) : g < w.heap.size := by
  cases st with
  | ok a => exact h.2.lt
  | bad e p => obtain ⟨_, _, _, a, _, h⟩ := h; exact h.lt
theorem RQ.grown {w w' : World} {g : Nat} {s : ByteArray} {st : WM.St} (h : RQ w g s st) {row : Option Nat} (hb : w.grownBy w' row) (hne : some g ≠ row) : RQ w' g s st := by
  cases st with
  | ok a => exact ⟨h.1, h.2.grown hb hne⟩
  | bad e p => obtain ⟨h1, h2, h3, a, h4, h⟩ := h; exact ⟨h1, h2, h3, a, h4, h.grown hb hne⟩
theorem RQ.below {w w' : World} {g : Nat} {s : ByteArray} {st : WM.St} (h : RQ w g s st) (hb : Below w.heap.size w w') : RQ w' g s st := by
  cases st with
  | ok a => exact ⟨h.1, h.2.below hb⟩
  | bad e p => obtain ⟨h1, h2, h3, a, h4, h⟩ := h; exact ⟨h1, h2, h3, a, h4, h.below hb⟩
theorem RQ.cells {w : World} {g : Nat} {s : ByteArray} {st : WM.St} (h : RQ w g s st) : ∃ a e b : Nat, a ≤ s.size ∧ (e = (match st with | .ok _ => 0 | .bad e _ => e)) ∧ (b = (match st with | .ok _ => 0 | .bad _ p => p)) ∧ RB TQ w g s a e b := by
  cases st with
  | ok a => exact ⟨a, 0, 0, h.1, rfl, rfl, h.2⟩
  | bad e p => obtain ⟨h1, h2, h3, a, h4, h⟩ := h; exact ⟨a, e, p, h4, rfl, rfl, h⟩

set_option maxRecDepth 100000 in
set_option maxHeartbeats 2000000 in
theorem refNum_any (g k : Nat) (s : ByteArray) (st : WM.St) (w : World) (hr : RQ w g s st) (hs : s.size ≤ 4611686018427387904) (h8 : k ≤ 8) :
    Calls Try.prog 28 #[.pointer (some ⟨g, 0, none⟩), .int .i64 k] w fun e w' =>
      e = .returned (.int .u64 ((WM.num s.data.toList k st).1 : Nat)) ∧ RQ w' g s (WM.num s.data.toList k st).2 ∧ w.grownBy w' (some g) := by
  cases st with
  | bad e p =>
    obtain ⟨h1, h2, hp, a, ha, hr⟩ := hr
    obtain ⟨c0, c1, c2, c3⟩ := hr.cells
    have e3 : ((e : Int) != 0) = true := by rw [bne_iff_ne]; omega
    have HR := Lib.hid hr; clear hr
    show Calls Try.prog _ _ w fun e' w' => e' = .returned (.int .u64 0) ∧ RQ w' g s (.bad e p) ∧ _
    go_enter Try.func28, Try.ntmps28
    go_wp2
    go_ret
    exact ⟨rfl, ⟨h1, h2, hp, a, ha, HR.out⟩, only_refl _ _⟩
  | ok a =>
    obtain ⟨ha, hr⟩ := hr
    obtain ⟨c0, c1, c2, c3⟩ := hr.cells
    have f1 := hr.frozen 1
    have f2 := hr.frozen 2
    have f3 := hr.frozen 3
    by_cases hsh : s.size < a + k
    · have hx : WM.num s.data.toList k (.ok a) = (0, .bad 7 a) := by simp only [WM.num]; rw [if_pos (by show s.size - a < k; omega)]
      rw [hx]; clear hx
      have e1 : IntKind.i64.wrap ((s.size : Int) - a) = (s.size : Int) - a := IntWalk.i64_in _ (by omega)
      have e3 : decide ((s.size : Int) - a < k) = true := by simp; omega
      have H := Lib.hid hr; clear hr
      go_enter Try.func28, Try.ntmps28
      go_wp2
      go_quiet (fail)
      go_wp2
      go_ret
      exact ⟨rfl, ⟨by omega, by omega, ha, a, ha, ((H.out.drewN _).set2 7).set3 a⟩, only_set (only_set (only_drewN (only_refl _ _) _) _ _) _ _⟩
    · have hx : WM.num s.data.toList k (.ok a) = (WM.val ((s.data.toList.drop a).take k), .ok (a + k)) := by simp only [WM.num]; rw [if_neg (by show ¬ s.size - a < k; omega)]
      rw [hx]; clear hx
      have e1 : IntKind.i64.wrap ((s.size : Int) - a) = (s.size : Int) - a := IntWalk.i64_in _ (by omega)
      have e3 : decide ((s.size : Int) - a < k) = false := by simp; omega
      have H := Lib.hid hr; clear hr
      go_enter Try.func28, Try.ntmps28
      go_wp2
      go_quiet (fail)
      go_wp2
      have H0 := Lib.hid (H.out.drewN nq)
      have G0 := Lib.hid (only_drewN (only_refl w g) nq)
      clear c0 c1 c2 c3 f1 f2 f3 H e1 e3
      go_loopw [5, 6] (fun x i wr => ∃ j : Nat, j ≤ k ∧ i = .int .i64 j ∧ x = .int .u64 (WM.val ((s.data.toList.drop a).take j) : Nat) ∧ RB TQ wr g s a 0 0 ∧ w.grownBy wr (some g)) (fun _ i _ => k - (intOf i).toNat)
      case atStart => exact ⟨0, by omega, rfl, rfl, H0.out, G0.out⟩
      case round =>
        obtain ⟨j, hj, rfl, rfl, hr, hg⟩ := hrel
        obtain ⟨c0, c1, c2, c3⟩ := hr.cells
        have f1 := hr.frozen 1
        have H := Lib.hid hr; have G := Lib.hid hg; clear hr hg
        by_cases hlt : j < k
        · have hjl : a + j < s.size := by omega
          have hsn : WM.val ((s.data.toList.drop a).take (j + 1)) = WM.val ((s.data.toList.drop a).take j) * 256 + s[a + j].toNat := by
            rw [List.take_succ_eq_append_getElem (by rw [List.length_drop]; show j < s.size - a; omega), WM.val_snoc, List.getElem_drop]; rfl
          have HS := Lib.hid hsn; clear hsn
          have hlt3 := WM.val_lt ((s.data.toList.drop a).take j)
          have hpow : 256 ^ ((s.data.toList.drop a).take j).length ≤ 72057594037927936 := by
            have h1 : ((s.data.toList.drop a).take j).length ≤ 7 := by
              have := List.length_take_le j (s.data.toList.drop a); omega
            calc 256 ^ ((s.data.toList.drop a).take j).length ≤ 256 ^ 7 := Nat.pow_le_pow_right (by omega) h1
              _ = 72057594037927936 := by decide
          have hx : WM.val ((s.data.toList.drop a).take j) < 72057594037927936 := by omega
          have hc : s[a + j].toNat < 256 := s[a + j].toNat_lt
          clear hlt3 hpow
          have hjk : (j : Int) < k := by omega
          generalize WM.val ((s.data.toList.drop a).take j) = X at *
          have ew : IntKind.i64.wrap ((a : Int) + j) = (a : Int) + j := IntWalk.i64_in _ (by omega)
          have ew2 : (0 : Int) ≤ (a : Int) + j := by omega
          have ew3 : (a : Int) + j < s.size := by omega
          have ew4 : ((a : Int) + j).toNat = a + j := by omega
          go_wp2
          go_quiet (fail)
          go_wp2
          exact ⟨⟨j + 1, by omega, by go_num, by rw [HS.out]; exact int_val (by omega), H.out.drewN _, only_drewN G.out _⟩, by simp [intOf]; omega⟩
        · have hjk : j = k := by omega
          subst hjk
          go_wp2
          go_ret
          rw [show ((a : Int) + j) = ((a + j : Nat) : Int) from by omega]
          exact ⟨rfl, ⟨by omega, H.out.set1 (a + j)⟩, only_set G.out _ _⟩

set_option maxRecDepth 100000 in
set_option maxHeartbeats 2000000 in
theorem refBool_any (g : Nat) (s : ByteArray) (st : WM.St) (w : World) (hr : RQ w g s st) (hs : s.size ≤ 4611686018427387904) :
    Calls Try.prog 30 #[.pointer (some ⟨g, 0, none⟩)] w fun e w' =>
      e = .returned (.bool (WM.bool s.data.toList st).1) ∧ RQ w' g s (WM.bool s.data.toList st).2 ∧ w.grownBy w' (some g) := by
  have hc := refNum_any g 1 s st w hr hs (by omega)
  have hl := num_lt s.data.toList 1 st
  obtain ⟨a, ee, bb, haS, hee, hbb, hrb⟩ := hr.cells
  obtain ⟨c0, c1, c2, c3⟩ := hrb.cells
  clear hee hbb hrb c0 c2 c3
  cases hq : WM.num s.data.toList 1 st with
  | mk n st1 =>
  rw [hq] at hc hl
  have hn2 : n < 256 := by simpa using hl
  cases st1 with
  | bad e p =>
    have hn := num_bad hq
    subst hn
    have hF : WM.bool s.data.toList st = (false, .bad e p) := by
      cases st with
      | ok a => simp only [WM.bool, hq]
      | bad e' p' => simp only [WM.bool]; simp only [WM.num, Prod.mk.injEq] at hq; rw [hq.2]
    rw [hF]
    have HC := Lib.hid hc; clear hc hq hl hr hF
    go_enter Try.func30, Try.ntmps30
    go_wp2_with fail
    refine HC.out.mono ?_
    rintro e' w1 ⟨rfl, hr1, hg1⟩
    obtain ⟨h1, h2, h3, a1, h4, hr1'⟩ := hr1
    obtain ⟨d0, d1, d2, d3⟩ := hr1'.cells
    have e3 : ((e : Int) == 0) = false := by rw [beq_eq_false_iff_ne]; omega
    have HR := Lib.hid hr1'; clear hr1' HC
    go_wp2_with fail
    go_ret
    exact ⟨rfl, ⟨h1, h2, h3, a1, h4, HR.out⟩, hg1⟩
  | ok b =>
    obtain ⟨a', rfl⟩ := num_ok hq
    have haa : a = a' := by
      have := hr.2.cells.2.1
      rw [this] at c1
      have h := c1.symm
      simp at h
      omega
    subst haa
    have haB := hr.1
    by_cases h1 : 1 < n
    · have hF : WM.bool s.data.toList (.ok a) = (false, .bad 7 a) := by simp only [WM.bool, hq]; rw [if_pos h1]
      rw [hF]
      have HC := Lib.hid hc; clear hc hq hl hr hF
      have e1 : decide ((1 : Int) < n) = true := by simp; omega
      go_enter Try.func30, Try.ntmps30
      go_wp2_with fail
      refine HC.out.mono ?_
      rintro e' w1 ⟨rfl, hr1, hg1⟩
      obtain ⟨hb4, hr1'⟩ := hr1
      obtain ⟨d0, d1, d2, d3⟩ := hr1'.cells
      have f2 := hr1'.frozen 2
      have f3 := hr1'.frozen 3
      have HR := Lib.hid hr1'; clear hr1' HC
      go_wp2_with fail
      go_ret
      exact ⟨rfl, ⟨by omega, by omega, haB, b, hb4, (HR.out.set2 7).set3 a⟩, only_set (only_set hg1 _ _) _ _⟩
    · have hF : WM.bool s.data.toList (.ok a) = (n == 1, .ok b) := by simp only [WM.bool, hq]; rw [if_neg h1]
      rw [hF]
      have HC := Lib.hid hc; clear hc hq hl hr hF
      have e1 : decide ((1 : Int) < n) = false := by simp; omega
      go_enter Try.func30, Try.ntmps30
      go_wp2_with fail
      refine HC.out.mono ?_
      rintro e' w1 ⟨rfl, hr1, hg1⟩
      obtain ⟨hb4, hr1'⟩ := hr1
      obtain ⟨d0, d1, d2, d3⟩ := hr1'.cells
      have HR := Lib.hid hr1'; clear hr1' HC
      go_wp2_with fail
      go_ret
      exact ⟨ret_b (by rw [Bool.eq_iff_iff]; simp; omega), ⟨hb4, HR.out⟩, hg1⟩

set_option maxRecDepth 100000 in
set_option maxHeartbeats 4000000 in
theorem refRdText_any (g : Nat) (most : Int) (s : ByteArray) (st : WM.St) (w : World) (hr : RQ w g s st) (hs : s.size ≤ 4611686018427387904) (hm : -9223372036854775808 ≤ most ∧ most ≤ 9223372036854775807) :
    Calls Try.prog 31 #[.pointer (some ⟨g, 0, none⟩), .int .i64 most] w fun e w' =>
      e = .returned (.string (bs (WM.textR s.data.toList most st).1)) ∧ RQ w' g s (WM.textR s.data.toList most st).2 ∧ w.grownBy w' (some g) := by
  have hc := refNum_any g 4 s st w hr hs (by omega)
  have hl := num_lt s.data.toList 4 st
  obtain ⟨a, ee, bb, haS, hee, hbb, hrb⟩ := hr.cells
  obtain ⟨c0, c1, c2, c3⟩ := hrb.cells
  clear hee hbb hrb c0 c2 c3
  cases hq : WM.num s.data.toList 4 st with
  | mk n st1 =>
  rw [hq] at hc hl
  have hn2 : n < 4294967296 := by simpa using hl
  cases st1 with
  | bad e p =>
    have hF : WM.textR s.data.toList most st = ([], .bad e p) := by
      cases st with
      | ok a => simp only [WM.textR, hq]
      | bad e' p' => simp only [WM.textR]; simp only [WM.num, Prod.mk.injEq] at hq; rw [hq.2]
    rw [hF]
    have HC := Lib.hid hc; clear hc hq hl hr hF
    go_enter Try.func31, Try.ntmps31
    go_wp2_with fail
    refine HC.out.mono ?_
    rintro e' w1 ⟨rfl, hr1, hg1⟩
    obtain ⟨h1, h2, h3, a1, h4, hr1'⟩ := hr1
    obtain ⟨d0, d1, d2, d3⟩ := hr1'.cells
    have e3 : ((e : Int) != 0) = true := by rw [bne_iff_ne]; omega
    have HR := Lib.hid hr1'; clear hr1' HC
    go_wp2_with fail
    go_ret
    exact ⟨rfl, ⟨h1, h2, h3, a1, h4, HR.out⟩, hg1⟩
  | ok b =>
    obtain ⟨a', rfl⟩ := num_ok hq
    have haa : a = a' := by
      have := hr.2.cells.2.1
      rw [this] at c1
      have h := c1.symm
      simp at h
      omega
    subst haa
    have haB := hr.1
    by_cases h1 : most < n
    · have hF : WM.textR s.data.toList most (.ok a) = ([], .bad 3 a) := by simp only [WM.textR, hq]; rw [if_pos h1]
      rw [hF]
      have HC := Lib.hid hc; clear hc hq hl hr hF
      by_cases hneg : most < 0
      · have e1 : decide (most < 0) = true := by simp; omega
        go_enter Try.func31, Try.ntmps31
        go_wp2_with fail
        refine HC.out.mono ?_
        rintro e' w1 ⟨rfl, hr1, hg1⟩
        obtain ⟨hb4, hr1'⟩ := hr1
        obtain ⟨d0, d1, d2, d3⟩ := hr1'.cells
        have f2 := hr1'.frozen 2
        have f3 := hr1'.frozen 3
        have HR := Lib.hid hr1'; clear hr1' HC
        go_wp2_with fail
        go_ret
        exact ⟨rfl, ⟨by omega, by omega, haB, b, hb4, (HR.out.set2 3).set3 a⟩, only_set (only_set hg1 _ _) _ _⟩
      · have e1 : decide (most < 0) = false := by simp; omega
        have e2 : IntKind.u64.wrap most = most := IntWalk.u64_in _ (by omega)
        have e3 : decide (most < (n : Int)) = true := by simp; omega
        go_enter Try.func31, Try.ntmps31
        go_wp2_with fail
        refine HC.out.mono ?_
        rintro e' w1 ⟨rfl, hr1, hg1⟩
        obtain ⟨hb4, hr1'⟩ := hr1
        obtain ⟨d0, d1, d2, d3⟩ := hr1'.cells
        have f2 := hr1'.frozen 2
        have f3 := hr1'.frozen 3
        have HR := Lib.hid hr1'; clear hr1' HC
        go_wp2_with fail
        go_ret
        exact ⟨rfl, ⟨by omega, by omega, haB, b, hb4, (HR.out.set2 3).set3 a⟩, only_set (only_set hg1 _ _) _ _⟩
    · have e1 : decide (most < 0) = false := by simp; omega
      have e2 : IntKind.u64.wrap most = most := IntWalk.u64_in _ (by omega)
      have e3 : decide (most < (n : Int)) = false := by simp; omega
      have hbS : b ≤ s.size := by
        have h := hq
        simp only [WM.num] at h
        split at h
        · simp at h
        · rename_i hh
          simp only [Prod.mk.injEq, WM.St.ok.injEq] at h
          have e : s.data.toList.length = s.size := rfl
          omega
      by_cases hsz : s.size - b < n
      · have hF : WM.textR s.data.toList most (.ok a) = ([], .bad 7 a) := by simp only [WM.textR, hq]; rw [if_neg h1, if_pos (by show s.size - b < n; exact hsz)]
        rw [hF]
        have HC := Lib.hid hc; clear hc hq hl hr hF
        have e4 : IntKind.i64.wrap ((s.size : Int) - b) = (s.size : Int) - b := IntWalk.i64_in _ (by omega)
        have e5 : IntKind.u64.wrap ((s.size : Int) - b) = (s.size : Int) - b := IntWalk.u64_in _ (by omega)
        have e6 : decide ((s.size : Int) - b < (n : Int)) = true := by simp; omega
        go_enter Try.func31, Try.ntmps31
        go_wp2_with fail
        refine HC.out.mono ?_
        rintro e' w1 ⟨rfl, hr1, hg1⟩
        obtain ⟨hb4, hr1'⟩ := hr1
        obtain ⟨d0, d1, d2, d3⟩ := hr1'.cells
        have f2 := hr1'.frozen 2
        have f3 := hr1'.frozen 3
        have HR := Lib.hid hr1'; clear hr1' HC
        go_wp2_with fail
        go_quiet (fail)
        go_wp2
        go_ret
        exact ⟨rfl, ⟨by omega, by omega, haB, b, hb4, ((HR.out.drewN _).set2 7).set3 a⟩, only_set (only_set (only_drewN hg1 _) _ _) _ _⟩
      · have hF : WM.textR s.data.toList most (.ok a) = ((s.data.toList.drop b).take n, .ok (b + n)) := by simp only [WM.textR, hq]; rw [if_neg h1, if_neg (by show ¬ s.size - b < n; exact hsz)]
        rw [hF]
        have HC := Lib.hid hc; clear hc hq hl hr hF
        have hxb : bs ((s.data.toList.drop b).take n) = s.extract b (b + n) := by
          rw [← bs_of (s.extract b (b + n)), Lib.extract_data]
          congr 2; omega
        have HX := Lib.hid hxb; clear hxb
        have e4 : IntKind.i64.wrap ((s.size : Int) - b) = (s.size : Int) - b := IntWalk.i64_in _ (by omega)
        have e5 : IntKind.u64.wrap ((s.size : Int) - b) = (s.size : Int) - b := IntWalk.u64_in _ (by omega)
        have e6 : decide ((s.size : Int) - b < (n : Int)) = false := by simp; omega
        have e7 : (0 : Int) ≤ (b : Int) + n := by omega
        have e8 : (b : Int) ≤ (b : Int) + n := by omega
        have e9 : (b : Int) + n ≤ s.size := by omega
        have e10 : ((b : Int) + n).toNat = b + n := by omega
        have e11 : (0 : Int) ≤ b := by omega
        go_enter Try.func31, Try.ntmps31
        go_wp2_with fail
        refine HC.out.mono ?_
        rintro e' w1 ⟨rfl, hr1, hg1⟩
        obtain ⟨hb4, hr1'⟩ := hr1
        obtain ⟨d0, d1, d2, d3⟩ := hr1'.cells
        have f1 := hr1'.frozen 1
        have HR := Lib.hid hr1'; clear hr1' HC
        go_wp2_with fail
        go_quiet (fail)
        go_wp2
        have hr2 : RB TQ ((w1.drewN nq).setCell ⟨g, 1, none⟩ (.int .i64 ((b : Int) + n))) g s (b + n) 0 0 := by
          have := (HR.out.drewN nq).set1 (b + n)
          rw [Int.natCast_add] at this
          exact this
        have hg2 := only_set (only_drewN hg1 nq) 1 (.int .i64 ((b : Int) + n))
        generalize (w1.drewN nq).setCell ⟨g, 1, none⟩ (.int .i64 ((b : Int) + n)) = W at hr2 hg2 ⊢
        obtain ⟨d0, d1, d2, d3⟩ := hr2.cells
        rw [Int.natCast_add] at d1
        have HR2 := Lib.hid hr2; have HG2 := Lib.hid hg2; clear hr2 hg2
        go_quiet (fail)
        go_wp2
        go_ret
        refine ⟨?_, ⟨by omega, HR2.out.drewN _⟩, only_drewN HG2.out _⟩
        rw [HX.out]; rfl

end Go.Proofs.Ytbapifbahhjfgaa
