/- The document's reader: Texts, Rest, End. -/
import Derived.Test.YteandcpjadmgcaaWireRefRd
namespace Go.Proofs.Yteandcpjadmgcaa
open Go.RowKit

set_option maxRecDepth 100000 in
set_option maxHeartbeats 4000000 in
theorem refRdTexts_any (g : Nat) (count most : Int) (s : ByteArray) (st : WM.St) (w : World) (hr : RQ w g s st) (hs : s.size ≤ 4611686018427387904)
    (hcb : -9223372036854775808 ≤ count ∧ count ≤ 9223372036854775807) (hm : -9223372036854775808 ≤ most ∧ most ≤ 9223372036854775807) :
    Calls Try.prog 39 #[.pointer (some ⟨g, 0, none⟩), .int .i64 count, .int .i64 most] w fun e w' =>
      ∃ A c ss, e = .returned (.slice A ss.length c) ∧ ss = (WM.textsR s.data.toList count most st).1.map bs ∧ SArg w' w'.heap.size A ss ∧ RQ w' g s (WM.textsR s.data.toList count most st).2 ∧ w.grownBy w' (some g) := by
  obtain ⟨i0, hi0, hz0, hz1, hz2⟩ := info_string
  have hlt0 := hr.lt
  have hc := refNum_any g 4 s st w hr hs (by omega)
  have hl := num_lt s.data.toList 4 st
  obtain ⟨a, ee, bb, haS, hee, hbb, hrb⟩ := hr.cells
  obtain ⟨c0, c1, c2, c3⟩ := hrb.cells
  clear hee hbb hrb c0 c2 c3
  cases hq : WM.num s.data.toList 4 st with
  | mk n st1 =>
  rw [hq] at hc hl
  have hn2 : n < 4294967296 := by simpa using hl
  cases st1 with
  | bad e p =>
    have hF : WM.textsR s.data.toList count most st = ([], .bad e p) := by
      cases st with
      | ok a => simp only [WM.textsR, hq]
      | bad e' p' => simp only [WM.textsR]; simp only [WM.num, Prod.mk.injEq] at hq; rw [hq.2]
    rw [hF]
    have HC := Lib.hid hc; clear hc hq hl hr hF
    go_enter Try.func39, Try.ntmps39
    go_wp2_with fail
    refine HC.out.mono ?_
    rintro e' w1 ⟨rfl, hr1, hg1⟩
    obtain ⟨h1, h2, h3, a1, h4, hr1'⟩ := hr1
    obtain ⟨d0, d1, d2, d3⟩ := hr1'.cells
    have e3 : ((e : Int) != 0) = true := by rw [bne_iff_ne]; omega
    have HR := Lib.hid hr1'; clear hr1' HC
    go_wp2_with fail
    go_ret
    exact ⟨none, 0, [], rfl, rfl, fun h => absurd h (by simp), ⟨h1, h2, h3, a1, h4, HR.out⟩, hg1⟩
  | ok b =>
    obtain ⟨a', rfl⟩ := num_ok hq
    have haa : a = a' := by
      have := hr.2.cells.2.1
      rw [this] at c1
      have h := c1.symm
      simp at h
      omega
    subst haa
    have haB := hr.1
    by_cases h1 : count < n
    · have hF : WM.textsR s.data.toList count most (.ok a) = ([], .bad 3 a) := by simp only [WM.textsR, hq]; rw [if_pos h1]
      rw [hF]
      have HC := Lib.hid hc; clear hc hq hl hr hF
      by_cases hneg : count < 0
      · have e1 : decide (count < 0) = true := by simp; omega
        go_enter Try.func39, Try.ntmps39
        go_wp2_with fail
        refine HC.out.mono ?_
        rintro e' w1 ⟨rfl, hr1, hg1⟩
        obtain ⟨hb4, hr1'⟩ := hr1
        obtain ⟨d0, d1, d2, d3⟩ := hr1'.cells
        have f2 := hr1'.frozen 2
        have f3 := hr1'.frozen 3
        have HR := Lib.hid hr1'; clear hr1' HC
        go_wp2_with fail
        go_ret
        exact ⟨none, 0, [], rfl, rfl, fun h => absurd h (by simp), ⟨by omega, by omega, haB, b, hb4, (HR.out.set2 3).set3 a⟩, only_set (only_set hg1 _ _) _ _⟩
      · have e1 : decide (count < 0) = false := by simp; omega
        have e2 : IntKind.u64.wrap count = count := IntWalk.u64_in _ (by omega)
        have e3 : decide (count < (n : Int)) = true := by simp; omega
        go_enter Try.func39, Try.ntmps39
        go_wp2_with fail
        refine HC.out.mono ?_
        rintro e' w1 ⟨rfl, hr1, hg1⟩
        obtain ⟨hb4, hr1'⟩ := hr1
        obtain ⟨d0, d1, d2, d3⟩ := hr1'.cells
        have f2 := hr1'.frozen 2
        have f3 := hr1'.frozen 3
        have HR := Lib.hid hr1'; clear hr1' HC
        go_wp2_with fail
        go_ret
        exact ⟨none, 0, [], rfl, rfl, fun h => absurd h (by simp), ⟨by omega, by omega, haB, b, hb4, (HR.out.set2 3).set3 a⟩, only_set (only_set hg1 _ _) _ _⟩
    · have e1 : decide (count < 0) = false := by simp; omega
      have e2 : IntKind.u64.wrap count = count := IntWalk.u64_in _ (by omega)
      have e3 : decide (count < (n : Int)) = false := by simp; omega
      have hF : WM.loopR s.data.toList most n (.ok b) [] = WM.textsR s.data.toList count most (.ok a) := by simp only [WM.textsR, hq]; rw [if_neg h1]
      generalize WM.textsR s.data.toList count most (.ok a) = F at hF ⊢
      have HC := Lib.hid hc; have HF := Lib.hid hF; clear hc hq hl hr hF
      go_enter Try.func39, Try.ntmps39
      go_wp2_with fail
      refine HC.out.mono ?_
      rintro e' w1 ⟨rfl, hr1, hg1⟩
      obtain ⟨d0, d1, d2, d3⟩ := hr1.2.cells
      have HR := Lib.hid hr1; have HG := Lib.hid hg1; clear hr1 hg1 HC c1
      go_wp2_with fail
      go_loopw [9, 10, 11] (fun v i _ wr => ∃ (k b : Nat) (acc : List (List UInt8)), k ≤ n ∧ i = .int .u64 k ∧ acc.length = k ∧ OwnS wr w.heap.size v (acc.map bs) ∧ RQ wr g s (.ok b) ∧ w.grownBy wr (some g) ∧ WM.loopR s.data.toList most (n - k) (.ok b) acc = F) (fun _ i _ _ => n - (intOf i).toNat)
      case atStart => exact ⟨0, _, [], by omega, rfl, rfl, World.ownsRow_nil _ _ _ _, HR.out, HG.out, HF.out⟩
      case round =>
        obtain ⟨k, b, acc, hk, rfl, hacc, hown, hr, hg, hF⟩ := hrel
        have hlt := hr.lt
        by_cases hkn : k < n
        · have hkn2 : (k : Int) < n := by omega
          have hT := refRdText_any g most s (.ok b) wr hr hs hm
          rw [show n - k = (n - k - 1) + 1 from by omega] at hF
          simp only [WM.loopR] at hF
          cases hq : WM.textR s.data.toList most (.ok b) with
          | mk t st2 =>
            rw [hq] at hT hF
            have HT := Lib.hid hT; have HOw := Lib.hid hown; have HGr := Lib.hid hg
            clear hT hq hown hg hr HR HG HF
            cases st2 with
            | bad e p =>
              have HF := Lib.hid hF; clear hF
              go_wp2_with fail
              refine HT.out.mono ?_
              rintro e' w2 ⟨rfl, hr2, hg2⟩
              obtain ⟨h1, h2, h3, a1, h4, hr2'⟩ := hr2
              obtain ⟨d0, d1, d2, d3⟩ := hr2'.cells
              have e3 : ((e : Int) != 0) = true := by rw [bne_iff_ne]; omega
              have HR2 := Lib.hid hr2'; clear hr2'
              go_wp2_with fail
              go_ret
              have hF := HF.out
              exact ⟨none, 0, [], rfl, by rw [← hF]; rfl, fun h => absurd h (by simp), by rw [← hF]; exact ⟨h1, h2, h3, a1, h4, HR2.out⟩, only_trans HGr.out hg2⟩
            | ok b2 =>
              have HF := Lib.hid hF; clear hF
              go_wp2_with fail
              refine HT.out.mono ?_
              rintro e' w2 ⟨rfl, hr2, hg2⟩
              obtain ⟨d0, d1, d2, d3⟩ := hr2.2.cells
              have HR2 := Lib.hid hr2; clear hr2
              have hg3 := only_trans HGr.out hg2
              have hne : ∀ k, u9.ownBlock = some k → w.heap.size ≤ k := fun k hk => (HOw.out.lt k hk).1
              have hown2 := World.ownsRow.kept HOw.out hg2 (by
                cases ho : u9.ownBlock with
                | none => exact Or.inl rfl
                | some k => right; intro h; cases h; have := hne _ ho; omega)
              have HO2 := Lib.hid hown2; have HG3 := Lib.hid hg3; clear hown2 hg3 hg2
              have hlen : (acc.map bs).length = k := by simp [hacc]
              go_wp2_with (at_builtin; refine wpList_append_own _ rfl (.tmp 51) (.tmp 53) 24 rfl w.heap.size 9 i0 (.string ByteArray.empty) 1 16 Try.underlying24 hi0 hz0 hz1 hz2 rfl (by decide) u9 (acc.map bs).length (strs (acc.map bs)) rfl (HO2.out.alloc _) ⟨w2.heap.size, 0, none⟩ 1 1 [.string (bs t)] rfl rfl ?qc2 ?qc3 ?qc4 ?qc5 ?qc6 ?_)
              case qc2 =>
                intro j u hj
                have hj0 : j = 0 := by have := (List.getElem?_eq_some_iff.1 hj).1; simpa using this
                subst hj0
                have : u = .string (bs t) := by simpa using hj.symm
                subst this
                exact cell_of_row _ _ _ _ _ _ (heap_alloc_new w2 _)
              case qc3 => intro u hu; have : u = .string (bs t) := by simpa using hu
                          subst this; rfl
              case qc4 => unfold maxLen; omega
              case qc5 => omega
              case qc6 => have := HG3.out.size; simp; omega
              intro v3 w3 hown3 hgrow3 _
              have hown4 : OwnS w3 w.heap.size v3 ((acc ++ [t]).map bs) := by
                have e1 : strs ((acc ++ [t]).map bs) = strs (acc.map bs) ++ [.string (bs t)] := by simp [strs]
                have e2 : ((acc ++ [t]).map bs).length = k + 1 := by simp [hacc]
                show World.ownsRow _ _ _ _ _ _ _
                rw [e1, e2]; exact hown3
              have hne3 : ∀ k, u9.ownBlock = some k → g ≠ k := fun k hk h => by have := hne k hk; omega
              have hr4 : RQ w3 g s (.ok b2) := (HR2.out.below (below_new w2 _)).grown hgrow3 (by intro h; exact hne3 g h.symm rfl)
              have hg4 : w.grownBy w3 (some g) := only_own (only_alloc HG3.out _) hgrow3 hne
              have H4 := Lib.hid hown4; have H5 := Lib.hid hr4; have H6 := Lib.hid hg4
              clear hown3 hgrow3 hown4 hr4 hg4
              go_wp2_with fail
              exact ⟨⟨k + 1, b2, acc ++ [t], by omega, by go_num, by simp [hacc], H4.out, H5.out, H6.out, by rw [← HF.out, show n - (k + 1) = n - k - 1 from by omega]⟩, by simp [intOf]; omega⟩
        · have hkn2 : ¬ ((k : Int) < n) := by omega
          obtain ⟨A, c, rfl, ha⟩ := hown.arg
          rw [show n - k = 0 from by omega] at hF
          simp only [WM.loopR] at hF
          have HA := Lib.hid ha; clear ha hown
          go_wp2_with fail
          go_ret
          have hL : (acc.map bs).length = k := by simp [hacc]
          exact ⟨A, c, acc.map bs, by rw [hL]; rfl, by rw [← hF], HA.out, by rw [← hF]; exact hr, hg⟩

set_option maxRecDepth 100000 in
set_option maxHeartbeats 1000000 in
theorem refRdRest_any (g : Nat) (s : ByteArray) (st : WM.St) (w : World) (hr : RQ w g s st) :
    Calls Try.prog 26 #[.pointer (some ⟨g, 0, none⟩)] w fun e w' =>
      e = .returned (.string (restOf s st)) ∧ Below w.heap.size w w' := by
  cases st with
  | bad e p =>
    obtain ⟨h1, h2, hp, a, h4, hr⟩ := hr
    obtain ⟨c0, c1, c2, c3⟩ := hr.cells
    have e3 : ((e : Int) != 0) = true := by rw [bne_iff_ne]; omega
    clear hr
    go_enter Try.func26, Try.ntmps26
    go_wp2
    go_ret
    exact ⟨rfl, Below.refl _ _⟩
  | ok a =>
    obtain ⟨ha, hr⟩ := hr
    obtain ⟨c0, c1, c2, c3⟩ := hr.cells
    have e4 : (0 : Int) ≤ a := by omega
    have e5 : (a : Int) ≤ s.size := by omega
    clear hr
    go_enter Try.func26, Try.ntmps26
    go_wp2
    go_quiet (fail)
    go_wp2
    go_ret
    exact ⟨rfl, ⟨rfl, rfl, rfl, Nat.le_refl _, fun _ _ => rfl⟩⟩

set_option maxRecDepth 100000 in
set_option maxHeartbeats 2000000 in
theorem refRdEnd_any (g : Nat) (s : ByteArray) (st : WM.St) (w : World) (hr : RQ w g s st) :
    Calls Try.prog 27 #[.pointer (some ⟨g, 0, none⟩)] w fun e' w' =>
      e' = .returned (.tuple #[.int .i64 (endOf s st).1, .int .i64 (endOf s st).2]) ∧ Below w.heap.size w w' := by
  cases st with
  | bad e p =>
    obtain ⟨h1, h2, hp, a, h4, hr⟩ := hr
    obtain ⟨c0, c1, c2, c3⟩ := hr.cells
    have e3 : ((e : Int) == 0) = false := by rw [beq_eq_false_iff_ne]; omega
    clear hr
    go_enter Try.func27, Try.ntmps27
    go_wp2
    go_quiet (fail)
    go_wp2
    go_quiet (fail)
    go_wp2
    go_ret2
    exact ⟨rfl, ⟨rfl, rfl, rfl, Nat.le_refl _, fun _ _ => rfl⟩⟩
  | ok a =>
    obtain ⟨ha, hr⟩ := hr
    obtain ⟨c0, c1, c2, c3⟩ := hr.cells
    clear hr
    by_cases hlt : a < s.size
    · have e1 : decide ((a : Int) < s.size) = true := by simp; omega
      have hx : endOf s (.ok a) = (7, a) := by simp [endOf, hlt]
      rw [hx]; clear hx
      go_enter Try.func27, Try.ntmps27
      go_wp2
      go_quiet (fail)
      go_wp2
      go_quiet (fail)
      go_wp2
      go_ret2
      exact ⟨rfl, ⟨rfl, rfl, rfl, Nat.le_refl _, fun _ _ => rfl⟩⟩
    · have e1 : decide ((a : Int) < s.size) = false := by simp; omega
      have hx : endOf s (.ok a) = (0, 0) := by simp [endOf, hlt]
      rw [hx]; clear hx
      go_enter Try.func27, Try.ntmps27
      go_wp2
      go_quiet (fail)
      go_wp2
      go_quiet (fail)
      go_wp2
      go_ret2
      exact ⟨rfl, ⟨rfl, rfl, rfl, Nat.le_refl _, fun _ _ => rfl⟩⟩

end Go.Proofs.Yteandcpjadmgcaa
