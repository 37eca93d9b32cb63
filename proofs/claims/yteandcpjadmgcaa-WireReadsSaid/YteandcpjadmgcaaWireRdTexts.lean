/- The reader's Texts, at every state. -/
import Derived.Test.YteandcpjadmgcaaWireLib
namespace Go.Proofs.Yteandcpjadmgcaa
open Go.RowKit

theorem only_own {a b c : World} {g : Nat} {row : Option Nat} (h : a.grownBy b (some g)) (k : b.grownBy c row) (hr : ∀ i, row = some i → a.heap.size ≤ i) : a.grownBy c (some g) :=
  ⟨k.os.trans h.os, k.tape.trans h.tape, k.output.trans h.output, Nat.le_trans h.size k.size, fun i hi hn => (k.block i (Nat.lt_of_lt_of_le hi h.size) (fun e => by have := hr i e.symm; omega)).trans (h.block i hi hn)⟩

theorem num_bad {l : List UInt8} {k : Nat} {st : WM.St} {n e p : Nat} (h : WM.num l k st = (n, .bad e p)) : n = 0 := by
  cases st with
  | ok a =>
    simp only [WM.num] at h
    split at h <;> simp at h
    exact h.1.symm
  | bad e p => simp only [WM.num, Prod.mk.injEq] at h; exact h.1.symm
theorem num_ok {l : List UInt8} {k : Nat} {st : WM.St} {n b : Nat} (h : WM.num l k st = (n, .ok b)) : ∃ a, st = .ok a := by
  cases st with
  | ok a => exact ⟨a, rfl⟩
  | bad e p => simp [WM.num] at h

theorem loopR_bad (l : List UInt8) (most : Int) (n e p : Nat) : WM.loopR l most n (.bad e p) [] = ([], .bad e p) := by
  cases n with
  | zero => rfl
  | succ n => simp only [WM.loopR, WM.textR]

set_option maxRecDepth 100000 in
set_option maxHeartbeats 4000000 in
theorem rdTexts_new (g : Nat) (count most : Int) (s : ByteArray) (st : WM.St) (w : World) (hr : RS TR w g s st) (hs : s.size ≤ 4611686018427387904) :
    Calls Try.prog 22 #[.pointer (some ⟨g, 0, none⟩), .int .i64 count, .int .i64 most] w fun e w' =>
      ∃ A c ss, e = .returned (.slice A ss.length c) ∧ ss = (WM.textsR s.data.toList count most st).1.map bs ∧ SArg w' w'.heap.size A ss ∧ (∀ ad, A = some ad → w.heap.size ≤ ad.block) ∧ RS TR w' g s (WM.textsR s.data.toList count most st).2 ∧ w.grownBy w' (some g) := by
  obtain ⟨i0, hi0, hz0, hz1, hz2⟩ := info_string
  have hlt0 := hr.lt
  have hc := rdU32_any g s st w hr hs
  obtain ⟨a, ha, c1⟩ := hr.cell1
  have hl := num_lt s.data.toList 4 st
  cases hq : WM.num s.data.toList 4 st with
  | mk n st1 =>
  rw [hq] at hc hl
  have hl2 : n < 4294967296 := by simpa using hl
  cases st1 with
  | bad e p =>

    have hF : WM.loopR s.data.toList most n (.bad e p) [] = WM.textsR s.data.toList count most st := by
      rw [loopR_bad]
      cases st with
      | ok a => simp only [WM.textsR, hq]
      | bad e' p' => simp only [WM.textsR]; simp only [WM.num, Prod.mk.injEq] at hq; rw [hq.2]
    generalize WM.textsR s.data.toList count most st = F at hF ⊢
    have HC := Lib.hid hc; have HF := Lib.hid hF; clear hc hq hl hr hF
    go_enter Try.func22, Try.ntmps22
    go_wp2_with fail
    refine HC.out.mono ?_
    rintro e' w1 ⟨rfl, hr1, hg1⟩
    obtain ⟨d0, d1, d2, d3⟩ := hr1.2.2.2.cells
    have e3 : ((e : Int) == 0) = false := by rw [beq_eq_false_iff_ne]; have := hr1.1; omega
    have HR := Lib.hid hr1; have HG := Lib.hid hg1; clear hr1 hg1 HC c1
    go_wp2_with fail
    go_loopw [9, 10, 39] (fun v _ i wr => ∃ (k : Nat) (st : WM.St) (acc : List (List UInt8)), k ≤ n ∧ i = .int .i64 k ∧ acc.length = k ∧ OwnS wr w.heap.size v (acc.map bs) ∧ RS TR wr g s st ∧ w.grownBy wr (some g) ∧ WM.loopR s.data.toList most (n - k) st acc = F) (fun _ _ i _ => n - (intOf i).toNat)
    case atStart => exact ⟨0, _, [], by omega, rfl, rfl, World.ownsRow_nil _ _ _ _, HR.out, HG.out, HF.out⟩
    case round =>
      obtain ⟨k, st, acc, hk, rfl, hacc, hown, hr, hg, hF⟩ := hrel
      have hlt := hr.lt
      by_cases hkn : k < n
      · have hkn2 : (k : Int) < n := by omega
        have hT := rdText_any g most s st wr hr hs
        rw [show n - k = (n - k - 1) + 1 from by omega] at hF
        simp only [WM.loopR] at hF
        cases hq : WM.textR s.data.toList most st with
        | mk t st2 =>
          rw [hq] at hT hF
          have HT := Lib.hid hT; have HOw := Lib.hid hown; have HGr := Lib.hid hg
          clear hT hq hown hg hr HR HG HF
          cases st2 with
          | bad e p =>
            have HF := Lib.hid hF; clear hF
            go_wp2_with fail
            refine HT.out.mono ?_
            rintro e' w2 ⟨rfl, hr2, hg2⟩
            obtain ⟨d0, d1, d2, d3⟩ := hr2.2.2.2.cells
            have e3 : ((e : Int) != 0) = true := by rw [bne_iff_ne]; have := hr2.1; omega
            have HR2 := Lib.hid hr2; clear hr2
            go_wp2_with fail
            go_ret
            have hF := HF.out
            exact ⟨none, 0, [], rfl, by rw [← hF]; rfl, fun h => absurd h (by simp), fun ad h => (by cases h), by rw [← hF]; exact HR2.out, only_trans HGr.out hg2⟩
          | ok b =>
            have HF := Lib.hid hF; clear hF
            go_wp2_with fail
            refine HT.out.mono ?_
            rintro e' w2 ⟨rfl, hr2, hg2⟩
            obtain ⟨d0, d1, d2, d3⟩ := hr2.2.cells
            have HR2 := Lib.hid hr2; clear hr2
            have hg3 := only_trans HGr.out hg2
            have hne : ∀ k, u9.ownBlock = some k → w.heap.size ≤ k := fun k hk => (HOw.out.lt k hk).1
            have hown2 := World.ownsRow.kept HOw.out hg2 (by
              cases ho : u9.ownBlock with
              | none => exact Or.inl rfl
              | some k => right; intro h; cases h; have := hne _ ho; omega)
            have HO2 := Lib.hid hown2; have HG3 := Lib.hid hg3; clear hown2 hg3 hg2
            have hlen : (acc.map bs).length = k := by simp [hacc]
            go_wp2_with (at_builtin; refine wpList_append_own _ rfl (.tmp 50) (.tmp 52) 24 rfl w.heap.size 9 i0 (.string ByteArray.empty) 1 16 Try.underlying24 hi0 hz0 hz1 hz2 rfl (by decide) u9 (acc.map bs).length (strs (acc.map bs)) rfl (HO2.out.alloc _) ⟨w2.heap.size, 0, none⟩ 1 1 [.string (bs t)] rfl rfl ?qc2 ?qc3 ?qc4 ?qc5 ?qc6 ?_)
            case qc2 =>
              intro j u hj
              have hj0 : j = 0 := by have := (List.getElem?_eq_some_iff.1 hj).1; simpa using this
              subst hj0
              have : u = .string (bs t) := by simpa using hj.symm
              subst this
              exact cell_of_row _ _ _ _ _ _ (heap_alloc_new w2 _)
            case qc3 => intro u hu; have : u = .string (bs t) := by simpa using hu
                        subst this; rfl
            case qc4 => unfold maxLen; omega
            case qc5 => omega
            case qc6 => have := HG3.out.size; simp; omega
            intro v3 w3 hown3 hgrow3 _
            have hown4 : OwnS w3 w.heap.size v3 ((acc ++ [t]).map bs) := by
              have e1 : strs ((acc ++ [t]).map bs) = strs (acc.map bs) ++ [.string (bs t)] := by simp [strs]
              have e2 : ((acc ++ [t]).map bs).length = k + 1 := by simp [hacc]
              show World.ownsRow _ _ _ _ _ _ _
              rw [e1, e2]; exact hown3
            have hne3 : ∀ k, u9.ownBlock = some k → g ≠ k := fun k hk h => by have := hne k hk; omega
            have hr4 : RS TR w3 g s (.ok b) := (HR2.out.below (below_new w2 _)).grown hgrow3 (by intro h; exact hne3 g h.symm rfl)
            have hg4 : w.grownBy w3 (some g) := only_own (only_alloc HG3.out _) hgrow3 hne
            have H4 := Lib.hid hown4; have H5 := Lib.hid hr4; have H6 := Lib.hid hg4
            clear hown3 hgrow3 hown4 hr4 hg4
            go_wp2_with fail
            exact ⟨⟨k + 1, .ok b, acc ++ [t], by omega, by go_num, by simp [hacc], H4.out, H5.out, H6.out, by rw [← HF.out, show n - (k + 1) = n - k - 1 from by omega]⟩, by simp [intOf]; omega⟩
      · have hkn2 : ¬ ((k : Int) < n) := by omega
        obtain ⟨A, c, rfl, ha⟩ := hown.arg
        have hnew : ∀ ad, A = some ad → w.heap.size ≤ ad.block := fun ad e => (hown.lt ad.block (by rw [e]; rfl)).1
        have HN := Lib.hid hnew; clear hnew
        rw [show n - k = 0 from by omega] at hF
        simp only [WM.loopR] at hF
        have HA := Lib.hid ha; clear ha hown
        go_wp2_with fail
        go_ret
        have hL : (acc.map bs).length = k := by simp [hacc]
        exact ⟨A, c, acc.map bs, by rw [hL]; rfl, by rw [← hF], HA.out, HN.out, by rw [← hF]; exact hr, hg⟩
  | ok b =>
    obtain ⟨a', rfl⟩ := num_ok hq
    have c1' := hr.2.cells.2.1
    have haS := hr.1
    by_cases hcn : count < n
    · have hF : WM.loopR s.data.toList most n (.bad 3 a') [] = WM.textsR s.data.toList count most (.ok a') := by
        rw [loopR_bad]; simp only [WM.textsR, hq]; rw [if_pos hcn]
      have e1 : decide (count < (n : Int)) = true := by simp; omega
      generalize WM.textsR s.data.toList count most (.ok a') = F at hF ⊢
      have HC := Lib.hid hc; have HF := Lib.hid hF; clear hc hq hl hr hF c1
      go_enter Try.func22, Try.ntmps22
      go_wp2_with fail
      refine HC.out.mono ?_
      rintro e' w1 ⟨rfl, hr1, hg1⟩
      obtain ⟨d0, d1, d2, d3⟩ := hr1.2.cells
      have f1 := hr1.2.frozen 1
      have hr2 := hr1.2.set1 a'
      have hg2 := only_set hg1 1 (.int .i64 a')
      have HG0 := Lib.hid hg2
      have HFl := Lib.hid (fail_ok g a' 3 a' s _ hr2)
      clear hr1 hr2 hg1 hg2 c1' HC
      go_wp2_with fail
      refine HFl.out.mono ?_
      rintro e w2 ⟨rfl, hr3, hg3⟩
      have HR := Lib.hid (show RS TR w2 g s (.bad 3 a') from ⟨by omega, by omega, haS, hr3⟩)
      have HG := Lib.hid (only_trans HG0.out hg3)
      clear hr3 hg3 HG0 HFl d0 d1 d2 d3 f1
      go_wp2_with fail
      go_loopw [9, 10, 39] (fun v _ i wr => ∃ (k : Nat) (st : WM.St) (acc : List (List UInt8)), k ≤ n ∧ i = .int .i64 k ∧ acc.length = k ∧ OwnS wr w.heap.size v (acc.map bs) ∧ RS TR wr g s st ∧ w.grownBy wr (some g) ∧ WM.loopR s.data.toList most (n - k) st acc = F) (fun _ _ i _ => n - (intOf i).toNat)
      case atStart => exact ⟨0, _, [], by omega, rfl, rfl, World.ownsRow_nil _ _ _ _, HR.out, HG.out, HF.out⟩
      case round =>
        obtain ⟨k, st, acc, hk, rfl, hacc, hown, hr, hg, hF⟩ := hrel
        have hlt := hr.lt
        by_cases hkn : k < n
        · have hkn2 : (k : Int) < n := by omega
          have hT := rdText_any g most s st wr hr hs
          rw [show n - k = (n - k - 1) + 1 from by omega] at hF
          simp only [WM.loopR] at hF
          cases hq : WM.textR s.data.toList most st with
          | mk t st2 =>
            rw [hq] at hT hF
            have HT := Lib.hid hT; have HOw := Lib.hid hown; have HGr := Lib.hid hg
            clear hT hq hown hg hr HR HG HF
            cases st2 with
            | bad e p =>
              have HF := Lib.hid hF; clear hF
              go_wp2_with fail
              refine HT.out.mono ?_
              rintro e' w2 ⟨rfl, hr2, hg2⟩
              obtain ⟨d0, d1, d2, d3⟩ := hr2.2.2.2.cells
              have e3 : ((e : Int) != 0) = true := by rw [bne_iff_ne]; have := hr2.1; omega
              have HR2 := Lib.hid hr2; clear hr2
              go_wp2_with fail
              go_ret
              have hF := HF.out
              exact ⟨none, 0, [], rfl, by rw [← hF]; rfl, fun h => absurd h (by simp), fun ad h => (by cases h), by rw [← hF]; exact HR2.out, only_trans HGr.out hg2⟩
            | ok b =>
              have HF := Lib.hid hF; clear hF
              go_wp2_with fail
              refine HT.out.mono ?_
              rintro e' w2 ⟨rfl, hr2, hg2⟩
              obtain ⟨d0, d1, d2, d3⟩ := hr2.2.cells
              have HR2 := Lib.hid hr2; clear hr2
              have hg3 := only_trans HGr.out hg2
              have hne : ∀ k, u9.ownBlock = some k → w.heap.size ≤ k := fun k hk => (HOw.out.lt k hk).1
              have hown2 := World.ownsRow.kept HOw.out hg2 (by
                cases ho : u9.ownBlock with
                | none => exact Or.inl rfl
                | some k => right; intro h; cases h; have := hne _ ho; omega)
              have HO2 := Lib.hid hown2; have HG3 := Lib.hid hg3; clear hown2 hg3 hg2
              have hlen : (acc.map bs).length = k := by simp [hacc]
              go_wp2_with (at_builtin; refine wpList_append_own _ rfl (.tmp 50) (.tmp 52) 24 rfl w.heap.size 9 i0 (.string ByteArray.empty) 1 16 Try.underlying24 hi0 hz0 hz1 hz2 rfl (by decide) u9 (acc.map bs).length (strs (acc.map bs)) rfl (HO2.out.alloc _) ⟨w2.heap.size, 0, none⟩ 1 1 [.string (bs t)] rfl rfl ?qc2 ?qc3 ?qc4 ?qc5 ?qc6 ?_)
              case qc2 =>
                intro j u hj
                have hj0 : j = 0 := by have := (List.getElem?_eq_some_iff.1 hj).1; simpa using this
                subst hj0
                have : u = .string (bs t) := by simpa using hj.symm
                subst this
                exact cell_of_row _ _ _ _ _ _ (heap_alloc_new w2 _)
              case qc3 => intro u hu; have : u = .string (bs t) := by simpa using hu
                          subst this; rfl
              case qc4 => unfold maxLen; omega
              case qc5 => omega
              case qc6 => have := HG3.out.size; simp; omega
              intro v3 w3 hown3 hgrow3 _
              have hown4 : OwnS w3 w.heap.size v3 ((acc ++ [t]).map bs) := by
                have e1 : strs ((acc ++ [t]).map bs) = strs (acc.map bs) ++ [.string (bs t)] := by simp [strs]
                have e2 : ((acc ++ [t]).map bs).length = k + 1 := by simp [hacc]
                show World.ownsRow _ _ _ _ _ _ _
                rw [e1, e2]; exact hown3
              have hne3 : ∀ k, u9.ownBlock = some k → g ≠ k := fun k hk h => by have := hne k hk; omega
              have hr4 : RS TR w3 g s (.ok b) := (HR2.out.below (below_new w2 _)).grown hgrow3 (by intro h; exact hne3 g h.symm rfl)
              have hg4 : w.grownBy w3 (some g) := only_own (only_alloc HG3.out _) hgrow3 hne
              have H4 := Lib.hid hown4; have H5 := Lib.hid hr4; have H6 := Lib.hid hg4
              clear hown3 hgrow3 hown4 hr4 hg4
              go_wp2_with fail
              exact ⟨⟨k + 1, .ok b, acc ++ [t], by omega, by go_num, by simp [hacc], H4.out, H5.out, H6.out, by rw [← HF.out, show n - (k + 1) = n - k - 1 from by omega]⟩, by simp [intOf]; omega⟩
        · have hkn2 : ¬ ((k : Int) < n) := by omega
          obtain ⟨A, c, rfl, ha⟩ := hown.arg
          have hnew : ∀ ad, A = some ad → w.heap.size ≤ ad.block := fun ad e => (hown.lt ad.block (by rw [e]; rfl)).1
          have HN := Lib.hid hnew; clear hnew
          rw [show n - k = 0 from by omega] at hF
          simp only [WM.loopR] at hF
          have HA := Lib.hid ha; clear ha hown
          go_wp2_with fail
          go_ret
          have hL : (acc.map bs).length = k := by simp [hacc]
          exact ⟨A, c, acc.map bs, by rw [hL]; rfl, by rw [← hF], HA.out, HN.out, by rw [← hF]; exact hr, hg⟩
    · have hF : WM.loopR s.data.toList most n (.ok b) [] = WM.textsR s.data.toList count most (.ok a') := by
        simp only [WM.textsR, hq]; rw [if_neg hcn]
      have e1 : decide (count < (n : Int)) = false := by simp; omega
      generalize WM.textsR s.data.toList count most (.ok a') = F at hF ⊢
      have HC := Lib.hid hc; have HF := Lib.hid hF; clear hc hq hl hr hF c1
      go_enter Try.func22, Try.ntmps22
      go_wp2_with fail
      refine HC.out.mono ?_
      rintro e' w1 ⟨rfl, hr1, hg1⟩
      obtain ⟨d0, d1, d2, d3⟩ := hr1.2.cells
      have HR := Lib.hid hr1; have HG := Lib.hid hg1; clear hr1 hg1 HC c1'
      go_wp2_with fail
      go_loopw [9, 10, 39] (fun v _ i wr => ∃ (k : Nat) (st : WM.St) (acc : List (List UInt8)), k ≤ n ∧ i = .int .i64 k ∧ acc.length = k ∧ OwnS wr w.heap.size v (acc.map bs) ∧ RS TR wr g s st ∧ w.grownBy wr (some g) ∧ WM.loopR s.data.toList most (n - k) st acc = F) (fun _ _ i _ => n - (intOf i).toNat)
      case atStart => exact ⟨0, _, [], by omega, rfl, rfl, World.ownsRow_nil _ _ _ _, HR.out, HG.out, HF.out⟩
      case round =>
        obtain ⟨k, st, acc, hk, rfl, hacc, hown, hr, hg, hF⟩ := hrel
        have hlt := hr.lt
        by_cases hkn : k < n
        · have hkn2 : (k : Int) < n := by omega
          have hT := rdText_any g most s st wr hr hs
          rw [show n - k = (n - k - 1) + 1 from by omega] at hF
          simp only [WM.loopR] at hF
          cases hq : WM.textR s.data.toList most st with
          | mk t st2 =>
            rw [hq] at hT hF
            have HT := Lib.hid hT; have HOw := Lib.hid hown; have HGr := Lib.hid hg
            clear hT hq hown hg hr HR HG HF
            cases st2 with
            | bad e p =>
              have HF := Lib.hid hF; clear hF
              go_wp2_with fail
              refine HT.out.mono ?_
              rintro e' w2 ⟨rfl, hr2, hg2⟩
              obtain ⟨d0, d1, d2, d3⟩ := hr2.2.2.2.cells
              have e3 : ((e : Int) != 0) = true := by rw [bne_iff_ne]; have := hr2.1; omega
              have HR2 := Lib.hid hr2; clear hr2
              go_wp2_with fail
              go_ret
              have hF := HF.out
              exact ⟨none, 0, [], rfl, by rw [← hF]; rfl, fun h => absurd h (by simp), fun ad h => (by cases h), by rw [← hF]; exact HR2.out, only_trans HGr.out hg2⟩
            | ok b =>
              have HF := Lib.hid hF; clear hF
              go_wp2_with fail
              refine HT.out.mono ?_
              rintro e' w2 ⟨rfl, hr2, hg2⟩
              obtain ⟨d0, d1, d2, d3⟩ := hr2.2.cells
              have HR2 := Lib.hid hr2; clear hr2
              have hg3 := only_trans HGr.out hg2
              have hne : ∀ k, u9.ownBlock = some k → w.heap.size ≤ k := fun k hk => (HOw.out.lt k hk).1
              have hown2 := World.ownsRow.kept HOw.out hg2 (by
                cases ho : u9.ownBlock with
                | none => exact Or.inl rfl
                | some k => right; intro h; cases h; have := hne _ ho; omega)
              have HO2 := Lib.hid hown2; have HG3 := Lib.hid hg3; clear hown2 hg3 hg2
              have hlen : (acc.map bs).length = k := by simp [hacc]
              go_wp2_with (at_builtin; refine wpList_append_own _ rfl (.tmp 50) (.tmp 52) 24 rfl w.heap.size 9 i0 (.string ByteArray.empty) 1 16 Try.underlying24 hi0 hz0 hz1 hz2 rfl (by decide) u9 (acc.map bs).length (strs (acc.map bs)) rfl (HO2.out.alloc _) ⟨w2.heap.size, 0, none⟩ 1 1 [.string (bs t)] rfl rfl ?qc2 ?qc3 ?qc4 ?qc5 ?qc6 ?_)
              case qc2 =>
                intro j u hj
                have hj0 : j = 0 := by have := (List.getElem?_eq_some_iff.1 hj).1; simpa using this
                subst hj0
                have : u = .string (bs t) := by simpa using hj.symm
                subst this
                exact cell_of_row _ _ _ _ _ _ (heap_alloc_new w2 _)
              case qc3 => intro u hu; have : u = .string (bs t) := by simpa using hu
                          subst this; rfl
              case qc4 => unfold maxLen; omega
              case qc5 => omega
              case qc6 => have := HG3.out.size; simp; omega
              intro v3 w3 hown3 hgrow3 _
              have hown4 : OwnS w3 w.heap.size v3 ((acc ++ [t]).map bs) := by
                have e1 : strs ((acc ++ [t]).map bs) = strs (acc.map bs) ++ [.string (bs t)] := by simp [strs]
                have e2 : ((acc ++ [t]).map bs).length = k + 1 := by simp [hacc]
                show World.ownsRow _ _ _ _ _ _ _
                rw [e1, e2]; exact hown3
              have hne3 : ∀ k, u9.ownBlock = some k → g ≠ k := fun k hk h => by have := hne k hk; omega
              have hr4 : RS TR w3 g s (.ok b) := (HR2.out.below (below_new w2 _)).grown hgrow3 (by intro h; exact hne3 g h.symm rfl)
              have hg4 : w.grownBy w3 (some g) := only_own (only_alloc HG3.out _) hgrow3 hne
              have H4 := Lib.hid hown4; have H5 := Lib.hid hr4; have H6 := Lib.hid hg4
              clear hown3 hgrow3 hown4 hr4 hg4
              go_wp2_with fail
              exact ⟨⟨k + 1, .ok b, acc ++ [t], by omega, by go_num, by simp [hacc], H4.out, H5.out, H6.out, by rw [← HF.out, show n - (k + 1) = n - k - 1 from by omega]⟩, by simp [intOf]; omega⟩
        · have hkn2 : ¬ ((k : Int) < n) := by omega
          obtain ⟨A, c, rfl, ha⟩ := hown.arg
          have hnew : ∀ ad, A = some ad → w.heap.size ≤ ad.block := fun ad e => (hown.lt ad.block (by rw [e]; rfl)).1
          have HN := Lib.hid hnew; clear hnew
          rw [show n - k = 0 from by omega] at hF
          simp only [WM.loopR] at hF
          have HA := Lib.hid ha; clear ha hown
          go_wp2_with fail
          go_ret
          have hL : (acc.map bs).length = k := by simp [hacc]
          exact ⟨A, c, acc.map bs, by rw [hL]; rfl, by rw [← hF], HA.out, HN.out, by rw [← hF]; exact hr, hg⟩

theorem rdTexts_any (g : Nat) (count most : Int) (s : ByteArray) (st : WM.St) (w : World) (hr : RS TR w g s st) (hs : s.size ≤ 4611686018427387904) :
    Calls Try.prog 22 #[.pointer (some ⟨g, 0, none⟩), .int .i64 count, .int .i64 most] w fun e w' =>
      ∃ A c ss, e = .returned (.slice A ss.length c) ∧ ss = (WM.textsR s.data.toList count most st).1.map bs ∧ SArg w' w'.heap.size A ss ∧ RS TR w' g s (WM.textsR s.data.toList count most st).2 ∧ w.grownBy w' (some g) := by
  refine (rdTexts_new g count most s st w hr hs).mono ?_
  rintro e w' ⟨A, c, ss, h1, h2, h3, _, h5, h6⟩
  exact ⟨A, c, ss, h1, h2, h3, h5, h6⟩

end Go.Proofs.Yteandcpjadmgcaa
