/- The law FrameTakes. -/
import Derived.Test.YtcgojpdgcoddnaaFrameRefScan
import Derived.Test.YtcgojpdgcoddnaaRoundRegion
namespace Go.Proofs.Ytcgojpdgcoddnaa
open Go.RowKit Go.Shelf

attribute [local go_sem] Oper.semAt_some

namespace FM
/-- where the next frame begins -/
def next (pre : List (Nat × List UInt8)) : Nat := (pre.map fun x => x.2.length + 12).sum
theorem next_snoc (pre : List (Nat × List UInt8)) (x : Nat × List UInt8) : next (pre ++ [x]) = next pre + (x.2.length + 12) := by simp [next]

theorem chunk_pos (s : List UInt8) : ∀ (k a : Nat) (pre : List (Nat × List UInt8)) (x : Nat × List UInt8), pre ++ [x] <+: chunks k s a → x.1 = a + next pre
  | 0, a, pre, x, h => by simp [chunks] at h
  | k + 1, a, pre, x, h => by
    simp only [chunks] at h
    split at h
    · rename_i h0
      obtain ⟨e1, _⟩ := take_ok _ h0
      match pre with
      | [] =>
        obtain ⟨t, ht⟩ := h
        simp at ht
        rw [ht.1]; rfl
      | y :: pre =>
        rw [List.cons_append, List.cons_prefix_cons] at h
        obtain ⟨rfl, h⟩ := h
        have := chunk_pos s k _ pre x h
        rw [this, e1]
        simp [next]; omega
    · simp at h

theorem next_le (s : List UInt8) (k : Nat) (pre : List (Nat × List UInt8)) (h : pre <+: chunks k s 0) : next pre ≤ s.length := by
  rcases List.eq_nil_or_concat pre with rfl | ⟨qs, q, rfl⟩
  · simp [next]
  · rw [List.concat_eq_append] at h ⊢
    have h1 := chunk_pos s k 0 qs q h
    have h2 := chunks_in s k 0 (by omega) q (h.subset (by simp))
    rw [next_snoc]
    omega

theorem prefix_at {pre xs : List (Nat × List UInt8)} {x : Nat × List UInt8} (h : pre <+: xs) (hk : pre.length < xs.length) : pre ++ [x] <+: xs ↔ x = xs[pre.length] := by
  obtain ⟨t, rfl⟩ := h
  cases t with
  | nil => simp at hk
  | cons y t => simp
end FM

theorem bs_inj {a b : List UInt8} (h : bs a = bs b) : a = b := by
  have h2 := congrArg (fun b : ByteArray => b.data.toList) h
  simpa only [bs_list] using h2

theorem results_one {fn : Func} (h : fn.results = #[.cell 4 4]) (tmps : Array Value) (W : World) (p1 : Nat) (v : Value) (h1 : tmps.getD 4 undef = .pointer (some ⟨p1, 0, none⟩))
    (c1 : W.cell? ⟨p1, 0, none⟩ = some v) : (results fn tmps).run Try.prog W = .ok v W := by
  have h1' : tmps[4]?.getD undef = .pointer (some ⟨p1, 0, none⟩) := by simpa using h1
  simp only [results, h]
  simp [go_sem, h1', asAddr, loadVar, isAgg, run_underlying Try.underlying4, c1]

theorem ownFrom_block {β : Type} {D B : Nat} (hD : D < B) (o : Obj) : OwnFrom B (fun (_ : β) W => W.heap[D]? = some o) := fun _ X Y row hs hg hr =>
  (hg.block D (Array.getElem?_eq_some_iff.1 hs).1 (fun e => by have := (hr D e.symm).1; omega)).trans hs

set_option maxRecDepth 100000 in
set_option maxHeartbeats 8000000 in
theorem frameTakes_in (n : Nat) (hn : 3 ≤ n) (s : ByteArray) (early : Int) (w : World) (hs : s.size ≤ 9223372036854775807) :
    CallsIn Fence.wide n Try.prog 6 #[.string s, .int .i64 early] w fun e W' => e = .returned (.bool true) ∧ Below w.heap.size w W' := by
  have h1 : 1 ≤ n := by omega
  refine callsIn_of_wp_marks Try.func6 rfl trivial ?_ rfl
  simp only [Try.ntmps6, List.size_toArray, List.length_cons, List.length_nil, Nat.reduceAdd, Nat.reduceSub, Array.replicate_succ, Array.replicate_zero, List.push_toArray, List.append_toArray, List.nil_append, List.cons_append]
  gi_wp2_with fail
  have bE : Boxed ((w.alloc (.cells #[.int .i64 early] 3)).alloc (.cells #[.bool false] 4)) w.heap.size 3 (.int .i64 early) := (Boxed.new w _ _).alloc _
  have bR : Boxed ((w.alloc (.cells #[.int .i64 early] 3)).alloc (.cells #[.bool false] 4)) (w.heap.size + 1) 4 (.bool false) := by
    have := Boxed.new (w.alloc (.cells #[.int .i64 early] 3)) 4 (.bool false)
    rwa [World.size_alloc] at this
  have hB0 : Below w.heap.size w ((w.alloc (.cells #[.int .i64 early] 3)).alloc (.cells #[.bool false] 4)) := ((Below.refl _ w).alloc (Nat.le_refl _) _).alloc (by simp) _
  generalize ((w.alloc (.cells #[.int .i64 early] 3)).alloc (.cells #[.bool false] 4)) = W0 at bE bR hB0 ⊢
  refine ⟨trivial, (callsIn_wide.2 (works_true _)).mono ?_⟩
  rintro e w1 ⟨rfl, hb1⟩
  replace bE := bE.kept (grown_below hb1) (by simp)
  replace bR := bR.kept (grown_below hb1) (by simp)
  have hB1 := Lib.hid (below_then hB0 hb1 (Nat.le_refl _))
  clear hb1 hB0
  have hcR := bR.cell
  have hfR := bR.frozen
  by_cases hbig : 16384 < s.size
  · have hd : decide (16384 < (s.size : Int)) = true := by simp; omega
    gi_wp2_with fail
    exact ⟨_, results_one rfl _ _ (w.heap.size + 1) _ rfl (bR.set (.bool true)).cell, rfl, hB1.out.setCell (p := ⟨w.heap.size + 1, 0, none⟩) (by show w.heap.size ≤ w.heap.size + 1; omega) _⟩
  have hd : decide (16384 < (s.size : Int)) = false := by simp; omega
  gi_wp2_with fail
  refine ⟨trivial, (callsIn_wide.2 (take_any s _ (by omega))).mono ?_⟩
  rintro e w2 ⟨rfl, hb2⟩
  have HT := Lib.hid (refTake_any s w2 (by omega))
  have hB2 := Lib.hid (below_then hB1.out hb2 (Nat.le_refl _))
  replace bE := bE.kept (grown_below hb2) (by simp)
  replace bR := bR.kept (grown_below hb2) (by simp)
  clear hb2 hB1 hcR hfR
  generalize FM.take s.data.toList = r at *
  obtain ⟨p, m, er⟩ := r
  simp only [tookV] at HT ⊢
  gi_wp2_with fail
  refine ⟨trivial, (callsIn_wide.2 HT.out).mono ?_⟩
  rintro e w3 ⟨rfl, hb3⟩
  have hB3 := Lib.hid (below_then hB2.out hb3 (Nat.le_refl _))
  replace bE := bE.kept (grown_below hb3) (by simp)
  replace bR := bR.kept (grown_below hb3) (by simp)
  clear hb3 hB2 HT
  gi_wp2_with fail
  refine ⟨trivial, (callsIn_wide.2 (refScan_any s (by omega) w3)).mono ?_⟩
  rintro e w4 ⟨A4, c4, rfl, ha4, hb4⟩
  have hB4 := Lib.hid (below_then hB3.out hb4 (Nat.le_refl _))
  replace bE := bE.kept (grown_below hb4) (by simp)
  replace bR := bR.kept (grown_below hb4) (by simp)
  clear hb4 hB3
  generalize hxs : FM.chunks (s.size + 1) s.data.toList 0 = xs at *
  have HXS := Lib.hid hxs; clear hxs
  gi_wp2_with fail
  have HSC := Lib.hid (fun w => scan_any s (by omega) w)
  rw [HXS.out] at HSC
  have hw4 : w.heap.size + 2 ≤ w4.heap.size := by have := bR.lt; omega
  have bW : Boxed ((w4.alloc (.cells #[.slice A4 (pays xs).length c4] 32)).alloc (.cells #[.int .i64 (FM.good xs : Nat)] 3)) w4.heap.size 32 (.slice A4 (pays xs).length c4) := (Boxed.new w4 _ _).alloc _
  have bA : Boxed ((w4.alloc (.cells #[.slice A4 (pays xs).length c4] 32)).alloc (.cells #[.int .i64 (FM.good xs : Nat)] 3)) (w4.heap.size + 1) 3 (.int .i64 (FM.good xs : Nat)) := by
    have := Boxed.new (w4.alloc (.cells #[.slice A4 (pays xs).length c4] 32)) 3 (.int .i64 (FM.good xs : Nat))
    rwa [World.size_alloc] at this
  have hN5 : Below w4.heap.size w4 ((w4.alloc (.cells #[.slice A4 (pays xs).length c4] 32)).alloc (.cells #[.int .i64 (FM.good xs : Nat)] 3)) := ((Below.refl _ w4).alloc (Nat.le_refl _) _).alloc (by simp) _
  generalize (w4.alloc (.cells #[.slice A4 (pays xs).length c4] 32)).alloc (.cells #[.int .i64 (FM.good xs : Nat)] 3) = W5 at bW bA hN5 ⊢
  generalize hN0 : w4.heap.size = N0 at *
  have HN0 := Lib.hid hN0; clear hN0
  refine ⟨trivial, (callsIn_wide.2 (HSC.out W5)).mono ?_⟩
  rintro e w6 ⟨A6, c6, rfl, ha6, hb6⟩
  have hB6 := Lib.hid (below_then hN5 hb6 (by have := bW.lt; have := HN0.out; omega))
  replace bW := bW.kept (grown_below hb6) (by simp)
  replace bA := bA.kept (grown_below hb6) (by simp)
  clear hb6 hN5 HSC
  have hcW := bW.cell
  have hcA := bA.cell
  have hxl : xs.length ≤ 16385 := by
    have := chunks_len s.data.toList (s.size + 1) 0
    rw [HXS.out] at this; omega
  have hpl : (pays xs).length ≤ 4611686018427387904 := by simp [pays]; omega
  have HA4 := Lib.hid ha4; clear ha4
  gi_wp2_with fail
  refine ⟨trivial, (callsIn_wide.2 (equal_n A6 A4 c6 c4 (pays xs).length (pays xs) w6 rfl ha6 (sarg_from HA4.out hB6.out (by have := bW.lt; omega)) hpl)).mono ?_⟩
  rintro e w7 ⟨rfl, hb7⟩
  have hB7 := Lib.hid (below_then hB6.out hb7 (by have := HN0.out; omega))
  replace bW := bW.kept (grown_below hb7) (by simp)
  replace bA := bA.kept (grown_below hb7) (by simp)
  clear hb7 hB6 ha6 hcW hcA hpl
  have hcW := bW.cell
  have hcA := bA.cell
  gi_wp2_with fail
  refine ⟨trivial, (callsIn_wide.2 (all_any s _)).mono ?_⟩
  rintro e w' ⟨rfl, rfl⟩
  clear hcW hcA
  gi_wp2_with fail
  have bS : Boxed ((w7.alloc (.cells #[.string s] 9)).alloc (.cells #[.int .i64 0] 3)) w7.heap.size 9 (.string s) := (Boxed.new w7 _ _).alloc _
  have bI : Boxed ((w7.alloc (.cells #[.string s] 9)).alloc (.cells #[.int .i64 0] 3)) (w7.heap.size + 1) 3 (.int .i64 0) := by
    have := Boxed.new (w7.alloc (.cells #[.string s] 9)) 3 (.int .i64 0)
    rwa [World.size_alloc] at this
  have hN7 : N0 + 2 ≤ w7.heap.size := by have := bA.lt; omega
  replace bW := (bW.alloc (.cells #[.string s] 9)).alloc (.cells #[.int .i64 0] 3)
  replace bA := (bA.alloc (.cells #[.string s] 9)).alloc (.cells #[.int .i64 0] 3)
  have hN8 : ((w7.alloc (.cells #[.string s] 9)).alloc (.cells #[.int .i64 0] 3)).heap.size = w7.heap.size + 2 := by simp
  have hB8 : Below N0 w4 ((w7.alloc (.cells #[.string s] 9)).alloc (.cells #[.int .i64 0] 3)) := (hB7.out.alloc (by omega) _).alloc (by simp; omega) _
  generalize (w7.alloc (.cells #[.string s] 9)).alloc (.cells #[.int .i64 0] 3) = W8 at bS bI bW bA hB8 hN8 ⊢
  generalize w7.heap.size = bs0 at *
  have hw4' := HN0.out
  refine' wpIn_rangeFunc_ownG rfl h1 (gf := 24) (lb := #[.pointer (some ⟨bs0, 0, none⟩)]) rfl trivial (enters_of Try.func24 (by kernel_rfl) rfl)
    (all_stops (n - 1) (by omega) bs0 s (by omega) W8 bS.cell) KBox.trans (KBox.put (by omega)) (Below.refl _ _) (fun _ => rfl)
    (fun (pre : List (Nat × List UInt8)) W => Boxed W bs0 9 (.string s) ∧ Boxed W N0 32 (.slice A4 (pays xs).length c4) ∧ Boxed W (N0 + 1) 3 (.int .i64 (FM.good xs : Nat)) ∧ Boxed W (bs0 + 1) 3 (.int .i64 (pre.length : Nat)) ∧ Below N0 w4 W)
    (fun c (pre : List (Nat × List UInt8)) W => c = .exit 0 ∧ Boxed W bs0 9 (.string s) ∧ Boxed W N0 32 (.slice A4 (pays xs).length c4) ∧ Boxed W (N0 + 1) 3 (.int .i64 (FM.good xs : Nat)) ∧ (∃ i : Int, Boxed W (bs0 + 1) 3 (.int .i64 i)) ∧ Below N0 w4 W)
    (OwnFrom.and (Own.from (boxed_own bs0 9 (fun _ => .string s)) _) (OwnFrom.and (Own.from (boxed_own N0 32 (fun _ => .slice A4 (pays xs).length c4)) _) (OwnFrom.and (Own.from (boxed_own (N0 + 1) 3 (fun _ => .int .i64 (FM.good xs : Nat))) _) (OwnFrom.and (Own.from (boxed_own (bs0 + 1) 3 (fun (pre : List (Nat × List UInt8)) => .int .i64 (pre.length : Nat))) _) (ownFrom_below (w₀ := w4) (by omega) (by omega))))))
    (fun c => OwnFrom.and (ownFrom_pure _ (fun _ => c = .exit 0)) (OwnFrom.and (Own.from (boxed_own bs0 9 (fun _ => .string s)) _) (OwnFrom.and (Own.from (boxed_own N0 32 (fun _ => .slice A4 (pays xs).length c4)) _) (OwnFrom.and (Own.from (boxed_own (N0 + 1) 3 (fun _ => .int .i64 (FM.good xs : Nat))) _) (OwnFrom.and (fun s X Y row ⟨i, hi⟩ hg hr => ⟨i, Own.from (boxed_own (bs0 + 1) 3 (fun _ => .int .i64 i)) W8.heap.size s X Y row hi hg hr⟩) (ownFrom_below (w₀ := w4) (by omega) (by omega)))))))
    ⟨bS, bW, bA, bI, hB8⟩ _ ?assign ?body ?done ?stop
  case assign =>
    intro l x W K hK
    gi_wp2
    exact hK
  case body =>
    rintro l pre x W ⟨hS, hW, hA, hI, hB⟩ hlt
    rw [HXS.out] at hlt
    have hcI := hI.cell
    have hfI := hI.frozen
    have hE : Boxed W w.heap.size 3 (.int .i64 early) := (hB.block _ (by omega)).trans bE
    have hcE := hE.cell
    have hIs := hI.set (.int .i64 ((pre.length : Int) + 1))
    have hAs := hA.other (show N0 + 1 ≠ bs0 + 1 by omega) (.int .i64 ((pre.length : Int) + 1))
    have hWs := hW.other (show N0 ≠ bs0 + 1 by omega) (.int .i64 ((pre.length : Int) + 1))
    have hSs := hS.other (show bs0 ≠ bs0 + 1 by omega) (.int .i64 ((pre.length : Int) + 1))
    have hBs := hB.setCell (p := ⟨bs0 + 1, 0, none⟩) (by show N0 ≤ bs0 + 1; omega) (.int .i64 ((pre.length : Int) + 1))
    have hpl1 : (pre.length : Int) + 1 ≤ 20000 := by omega
    have hszW := hB.size
    by_cases he : (pre.length : Int) = early
    · have e1 : ((pre.length : Int) == early) = true := by rw [beq_iff_eq]; exact he
      clear he
      gi_wp2_with fail
      exact ⟨KeepsFrom.refl _ _, rfl, hS, hW, hA, ⟨_, hI⟩, hB⟩
    · have e1 : ((pre.length : Int) == early) = false := by rw [beq_eq_false_iff_ne]; exact he
      gi_wp2_with fail
      have el : ((pre ++ [x]).length : Int) = (pre.length : Int) + 1 := by simp
      refine ⟨(KeepsOthers.setCell _ _ _).from _, ⟨by simp, hSs.trans hS.symm⟩, hSs, hWs, hAs, ?_, hBs⟩
      rw [el]; exact hIs
  case done =>
    rintro D ys W hD hys ⟨hS, hW, hA, hI, hB⟩ hK
    obtain ⟨i, hi⟩ : ∃ i : Int, ((ys.length : Nat) : Int) = i := ⟨_, rfl⟩
    rw [hi] at hI
    clear hi hys
    have hwW := hB.size
    have hDW : D < W.heap.size := (Array.getElem?_eq_some_iff.1 hK).1
    have n1 : bs0 + 1 ≠ N0 + 1 := by omega
    have hI2 := (hI.set (.int .i64 0)).other n1 (.int .i64 0)
    have hA2 := (hA.other n1.symm (.int .i64 0)).set (.int .i64 0)
    have hW2 := (hW.other (show N0 ≠ bs0 + 1 by omega) (.int .i64 0)).other (show N0 ≠ N0 + 1 by omega) (.int .i64 0)
    have hS2 := (hS.other (show bs0 ≠ bs0 + 1 by omega) (.int .i64 0)).other (show bs0 ≠ N0 + 1 by omega) (.int .i64 0)
    have hB2 := (hB.setCell (p := ⟨bs0 + 1, 0, none⟩) (by show N0 ≤ bs0 + 1; omega) (.int .i64 0)).setCell (p := ⟨N0 + 1, 0, none⟩) (by show N0 ≤ N0 + 1; omega) (.int .i64 0)
    have hK2 : ((W.setCell ⟨bs0 + 1, 0, none⟩ (.int .i64 0)).setCell ⟨N0 + 1, 0, none⟩ (.int .i64 0)).heap[D]? = some (.deferred (some [])) := by
      rw [Below.heap_setCell _ _ _ _ (by show D ≠ N0 + 1; omega), Below.heap_setCell _ _ _ _ (by show D ≠ bs0 + 1; omega)]
      exact hK
    have hcI := hI.cell
    have hfI := hI.frozen
    have hcA := (hA.other n1.symm (.int .i64 0)).cell
    have hfA := (hA.other n1.symm (.int .i64 0)).frozen
    gi_wp2_with fail
    clear hcI hfI hcA hfA
    have hsz2 : ((W.setCell ⟨bs0 + 1, 0, none⟩ (.int .i64 0)).setCell ⟨N0 + 1, 0, none⟩ (.int .i64 0)).heap.size = W.heap.size := by simp
    clear hI hA hW hS hB hK
    generalize (W.setCell ⟨bs0 + 1, 0, none⟩ (.int .i64 0)).setCell ⟨N0 + 1, 0, none⟩ (.int .i64 0) = W9 at *
    refine' wpIn_rangeFunc_ownG rfl h1 (gf := 24) (lb := #[.pointer (some ⟨bs0, 0, none⟩)]) rfl trivial (enters_of Try.func24 (by kernel_rfl) rfl)
      (all_stops (n - 1) (by omega) bs0 s (by omega) W9 hS2.cell) KBox.trans (KBox.put (by omega)) (Below.refl _ _) (fun _ => rfl)
      (fun (pre : List (Nat × List UInt8)) W => Boxed W bs0 9 (.string s) ∧ Boxed W N0 32 (.slice A4 (pays xs).length c4) ∧ Boxed W (N0 + 1) 3 (.int .i64 (FM.next pre : Nat)) ∧ Boxed W (bs0 + 1) 3 (.int .i64 (pre.length : Nat)) ∧ Below N0 w4 W ∧ W.heap[D]? = some (.deferred (some [])) ∧ pre <+: xs)
      (fun _ (pre : List (Nat × List UInt8)) _ => ¬ (pre <+: xs))
      (OwnFrom.and (Own.from (boxed_own bs0 9 (fun _ => .string s)) _) (OwnFrom.and (Own.from (boxed_own N0 32 (fun _ => .slice A4 (pays xs).length c4)) _) (OwnFrom.and (Own.from (boxed_own (N0 + 1) 3 (fun (pre : List (Nat × List UInt8)) => .int .i64 (FM.next pre : Nat))) _) (OwnFrom.and (Own.from (boxed_own (bs0 + 1) 3 (fun (pre : List (Nat × List UInt8)) => .int .i64 (pre.length : Nat))) _) (OwnFrom.and (ownFrom_below (w₀ := w4) (by omega) (by omega)) (OwnFrom.and (ownFrom_block (by omega) _) (ownFrom_pure _ _)))))))
      (fun c => ownFrom_pure _ _)
      ⟨hS2, hW2, hA2, hI2, hB2, hK2, List.nil_prefix⟩ _ ?assign2 ?body2 ?done2 ?stop2
    case assign2 =>
      intro l x W K hK
      gi_wp2
      exact hK
    case body2 =>
      rintro l pre x W' ⟨hS, hW, hA, hI, hB, hK, hP⟩ hlt
      rw [HXS.out] at hlt
      have hcI := hI.cell
      have hfI := hI.frozen
      have hcA := hA.cell
      have hfA := hA.frozen
      have hcW := hW.cell
      have hpk : pre.length < (pays xs).length := by simpa [pays] using hlt
      obtain ⟨ad, hAd, hadb, hcell⟩ := (HA4.out.below hB (by omega)).at_ hpk
      have hxk : (pays xs)[pre.length] = bs xs[pre.length].2 := by simp [pays]
      have hiff := FM.prefix_at (x := x) hP hlt
      have hpos : xs[pre.length].1 = FM.next pre := by
        have := FM.chunk_pos s.data.toList (s.size + 1) 0 pre xs[pre.length] (by rw [HXS.out]; exact (FM.prefix_at hP hlt).2 rfl)
        omega
      have hnx : FM.next pre ≤ 16384 := by
        have := FM.next_le s.data.toList (s.size + 1) pre (by rw [HXS.out]; exact hP)
        have h2 : s.data.toList.length = s.size := rfl
        omega
      have hR : Boxed W' (w.heap.size + 1) 4 (.bool false) := (hB.block _ (by omega)).trans bR
      have hcR := hR.cell
      have hfR := hR.frozen
      have hge : ¬ (pays xs).length ≤ pre.length := by omega
      have hlti : (pre.length : Int) < (pays xs).length := by omega
      have hszW := hB.size
      have HIFF := Lib.hid hiff; have HPOS := Lib.hid hpos; have HXK := Lib.hid hxk
      clear hiff hpos hxk
      subst hAd
      generalize hy : (pays xs)[pre.length] = y at *
      clear hy
      by_cases c1 : x.1 = FM.next pre
      · have e1 : ((x.1 : Int) != (FM.next pre : Nat)) = false := by rw [bne_eq_false_iff_eq]; omega
        by_cases c2 : bs x.2 = y
        · have e2 := str_eq c2
          have hx : x = xs[pre.length] := Prod.ext (c1.trans HPOS.out.symm) (bs_inj (c2.trans HXK.out))
          have hpre : pre ++ [x] <+: xs := HIFF.out.2 hx
          have hin := chunks_in s.data.toList (s.size + 1) 0 (by omega) x (by rw [HXS.out]; exact hpre.subset (by simp))
          have hl2 : s.data.toList.length = s.size := rfl
          have hxs := bs_size x.2
          have hb1 : (FM.next pre : Int) + (bs x.2).size + 12 ≤ 16384 := by omega
          have hb2 : (pre.length : Int) + 1 ≤ 20000 := by omega
          have HPRE := Lib.hid hpre
          have HXSZ := Lib.hid hxs
          clear hx hpre hin hl2 hxs c2
          gi_wp2_with fail
          clear e1 e2 c1 hcell hcW hcR hfR hR hge hlti hnx HXK HPOS HIFF
          have hIs := (hI.set (.int .i64 ((pre.length : Int) + 1))).other n1 (.int .i64 ((FM.next pre : Int) + (bs x.2).size + 12))
          have hAs := (hA.other n1.symm (.int .i64 ((pre.length : Int) + 1))).set (.int .i64 ((FM.next pre : Int) + (bs x.2).size + 12))
          have hWs := (hW.other (show N0 ≠ bs0 + 1 by omega) (.int .i64 ((pre.length : Int) + 1))).other (show N0 ≠ N0 + 1 by omega) (.int .i64 ((FM.next pre : Int) + (bs x.2).size + 12))
          have hSs := (hS.other (show bs0 ≠ bs0 + 1 by omega) (.int .i64 ((pre.length : Int) + 1))).other (show bs0 ≠ N0 + 1 by omega) (.int .i64 ((FM.next pre : Int) + (bs x.2).size + 12))
          have hBs := (hB.setCell (p := ⟨bs0 + 1, 0, none⟩) (by show N0 ≤ bs0 + 1; omega) (.int .i64 ((pre.length : Int) + 1))).setCell (p := ⟨N0 + 1, 0, none⟩) (by show N0 ≤ N0 + 1; omega) (.int .i64 ((FM.next pre : Int) + (bs x.2).size + 12))
          have hKs : ((W'.setCell ⟨bs0 + 1, 0, none⟩ (.int .i64 ((pre.length : Int) + 1))).setCell ⟨N0 + 1, 0, none⟩ (.int .i64 ((FM.next pre : Int) + (bs x.2).size + 12))).heap[D]? = some (.deferred (some [])) := by
            rw [Below.heap_setCell _ _ _ _ (by show D ≠ N0 + 1; omega), Below.heap_setCell _ _ _ _ (by show D ≠ bs0 + 1; omega)]
            exact hK
          have hKF : KeepsFrom W9.heap.size W' ((W'.setCell ⟨bs0 + 1, 0, none⟩ (.int .i64 ((pre.length : Int) + 1))).setCell ⟨N0 + 1, 0, none⟩ (.int .i64 ((FM.next pre : Int) + (bs x.2).size + 12))) := ((KeepsOthers.setCell _ _ _).trans (KeepsOthers.setCell _ _ _)).from _
          have hKB : KBox bs0 W' ((W'.setCell ⟨bs0 + 1, 0, none⟩ (.int .i64 ((pre.length : Int) + 1))).setCell ⟨N0 + 1, 0, none⟩ (.int .i64 ((FM.next pre : Int) + (bs x.2).size + 12))) := ⟨by simp, hSs.trans hS.symm⟩
          have hE1 : ((FM.next (pre ++ [x]) : Nat) : Int) = (FM.next pre : Int) + (bs x.2).size + 12 := by rw [FM.next_snoc, HXSZ.out]; omega
          have hE2 : (((pre ++ [x]).length : Nat) : Int) = (pre.length : Int) + 1 := by simp
          have H := Lib.hid (And.intro hIs (And.intro hAs (And.intro hWs hSs)))
          have HBB := Lib.hid hBs; have HKK := Lib.hid hKs; have HKF := Lib.hid hKF; have HKB := Lib.hid hKB
          have HE1 := Lib.hid hE1; have HE2 := Lib.hid hE2
          clear hIs hAs hWs hSs hI hA hW hS hBs hKs hKF hKB hE1 hE2 HXSZ
          generalize (FM.next pre) = nx at *
          generalize pre.length = pl at *
          generalize bs x.2 = X at *
          have hw1 : IntKind.i64.wrap ((pl : Int) + 1) = pl + 1 := IntWalk.i64_in _ (by omega)
          have hw2 : IntKind.i64.wrap ((nx : Int) + X.size) = nx + X.size := IntWalk.i64_in _ (by omega)
          have hw3 : IntKind.i64.wrap ((nx : Int) + X.size + 12) = nx + X.size + 12 := IntWalk.i64_in _ (by omega)
          have HW1 := Lib.hid hw1; have HW2 := Lib.hid hw2; have HW3 := Lib.hid hw3
          refine wpIn_region_any (by kernel_rfl) ?_
          change wpAnyIn _ _ _ _ _ _ _ _ _ W'.drew
          refine wpAnyIn_round rfl l (fun i o hi => noDefer_spec (by kernel_rfl) i o hi) _ _ _ _ ?_
          refine wpAnyIn_take (i := 3) (v := ?_) rfl (by simp only [List.getElem?_toArray, List.getElem?_cons_succ, List.getElem?_cons_zero]; rfl) (by kernel_rfl) (by kernel_rfl) (by kernel_rfl) (by exact fun _ _ _ h => h) ⟨Or.inl ⟨by rfl, ?_⟩, by exact fun _ => rfl⟩ ?_
          rotate_left
          · (intro w; go_simp)
            try with_reducible rfl
          try simp only [Act.put, List.setIfInBounds_toArray, List.set_cons_zero, List.set_cons_succ]
          refine wpAnyIn_take (i := 4) (v := ?_) rfl (by simp only [List.getElem?_toArray, List.getElem?_cons_succ, List.getElem?_cons_zero]; rfl) (by kernel_rfl) (by kernel_rfl) (by kernel_rfl) (by exact fun _ _ _ h => h) ⟨Or.inl ⟨by rfl, ?_⟩, by exact fun _ => rfl⟩ ?_
          rotate_left
          · (intro w; go_simp)
            try with_reducible rfl
          try simp only [Act.put, List.setIfInBounds_toArray, List.set_cons_zero, List.set_cons_succ]
          refine wpAnyIn_ready (rs := [0, 2]) (by kernel_rfl) (by simp) ?_
          refine (AllReadyIn.cons (by simp only [List.getElem?_toArray, List.getElem?_cons_succ, List.getElem?_cons_zero]; rfl) (fun K hK => ?_) (AllReadyIn.cons (by simp only [List.getElem?_toArray, List.getElem?_cons_succ, List.getElem?_cons_zero]; rfl) (fun K hK => ?_) AllReadyIn.nil))
          · go_simp
            refine hK _ _ ?_
            clear hK K
            try simp only [Act.put, List.setIfInBounds_toArray, List.set_cons_zero, List.set_cons_succ]
            refine wpAnyIn_take (i := 1) (v := ?_) rfl (by simp only [List.getElem?_toArray, List.getElem?_cons_succ, List.getElem?_cons_zero]; rfl) (by kernel_rfl) (by kernel_rfl) (by kernel_rfl) (by exact fun _ _ _ h => h) ⟨Or.inl ⟨by rfl, ?_⟩, by exact fun _ => rfl⟩ ?_
            rotate_left
            · (intro w; go_simp)
              try with_reducible rfl
            try simp only [Act.put, List.setIfInBounds_toArray, List.set_cons_zero, List.set_cons_succ]
            refine wpAnyIn_ready (rs := [2, 7]) (by kernel_rfl) (by simp) ?_
            refine (AllReadyIn.cons (by simp only [List.getElem?_toArray, List.getElem?_cons_succ, List.getElem?_cons_zero]; rfl) (fun K hK => ?_) (AllReadyIn.cons (by simp only [List.getElem?_toArray, List.getElem?_cons_succ, List.getElem?_cons_zero]; rfl) (fun K hK => ?_) AllReadyIn.nil))
            · go_simp
              refine hK _ _ ?_
              clear hK K
              try simp only [Act.put, List.setIfInBounds_toArray, List.set_cons_zero, List.set_cons_succ]
              refine wpAnyIn_take (i := 5) (v := ?_) rfl (by simp only [List.getElem?_toArray, List.getElem?_cons_succ, List.getElem?_cons_zero]; rfl) (by kernel_rfl) (by kernel_rfl) (by kernel_rfl) (by exact fun _ _ _ h => h) ⟨Or.inl ⟨by rfl, ?_⟩, by exact fun _ => rfl⟩ ?_
              rotate_left
              · (intro w; go_simp)
                try with_reducible rfl
              try simp only [Act.put, List.setIfInBounds_toArray, List.set_cons_zero, List.set_cons_succ]
              refine wpAnyIn_take (i := 6) (v := ?_) rfl (by simp only [List.getElem?_toArray, List.getElem?_cons_succ, List.getElem?_cons_zero]; rfl) (by kernel_rfl) (by kernel_rfl) (by kernel_rfl) (by exact fun _ _ _ h => h) ⟨Or.inl ⟨by rfl, ?_⟩, by exact fun _ => rfl⟩ ?_
              rotate_left
              · (intro w; go_simp)
                try with_reducible rfl
              try simp only [Act.put, List.setIfInBounds_toArray, List.set_cons_zero, List.set_cons_succ]
              refine wpAnyIn_ready (rs := [7]) (by kernel_rfl) (by simp) ?_
              refine (AllReadyIn.cons (by simp only [List.getElem?_toArray, List.getElem?_cons_succ, List.getElem?_cons_zero]; rfl) (fun K hK => ?_) AllReadyIn.nil)
              go_simp
              refine hK _ _ ?_
              clear hK K
              try simp only [Act.put, List.setIfInBounds_toArray, List.set_cons_zero, List.set_cons_succ]
              refine wpAnyIn_ready (rs := [8]) (by kernel_rfl) (by simp) ?_
              refine (AllReadyIn.cons (by simp only [List.getElem?_toArray, List.getElem?_cons_succ, List.getElem?_cons_zero]; rfl) (fun K hK => ?_) AllReadyIn.nil)
              go_simp
              refine hK _ _ ?_
              clear hK K
              try simp only [Act.put, List.setIfInBounds_toArray, List.set_cons_zero, List.set_cons_succ]
              refine wpAnyIn_done (by kernel_rfl) ?_ _
              try simp only [HW1.out, HW2.out, HW3.out]
              exact ⟨⟨HKF.out.size, HKF.out.same⟩, ⟨HKB.out.1, HKB.out.2⟩, H.out.2.2.2, H.out.2.2.1, by rw [HE1.out]; exact H.out.2.1, by rw [HE2.out]; exact H.out.1, ⟨HBB.out.os, HBB.out.tape, HBB.out.output, HBB.out.size, HBB.out.block⟩, HKK.out, HPRE.out⟩
            · go_simp
              refine hK _ _ ?_
              clear hK K
              try simp only [Act.put, List.setIfInBounds_toArray, List.set_cons_zero, List.set_cons_succ]
              refine wpAnyIn_ready (rs := [2]) (by kernel_rfl) (by simp) ?_
              refine (AllReadyIn.cons (by simp only [List.getElem?_toArray, List.getElem?_cons_succ, List.getElem?_cons_zero]; rfl) (fun K hK => ?_) AllReadyIn.nil)
              go_simp
              refine hK _ _ ?_
              clear hK K
              try simp only [Act.put, List.setIfInBounds_toArray, List.set_cons_zero, List.set_cons_succ]
              refine wpAnyIn_take (i := 5) (v := ?_) rfl (by simp only [List.getElem?_toArray, List.getElem?_cons_succ, List.getElem?_cons_zero]; rfl) (by kernel_rfl) (by kernel_rfl) (by kernel_rfl) (by exact fun _ _ _ h => h) ⟨Or.inl ⟨by rfl, ?_⟩, by exact fun _ => rfl⟩ ?_
              rotate_left
              · (intro w; go_simp)
                try with_reducible rfl
              try simp only [Act.put, List.setIfInBounds_toArray, List.set_cons_zero, List.set_cons_succ]
              refine wpAnyIn_take (i := 6) (v := ?_) rfl (by simp only [List.getElem?_toArray, List.getElem?_cons_succ, List.getElem?_cons_zero]; rfl) (by kernel_rfl) (by kernel_rfl) (by kernel_rfl) (by exact fun _ _ _ h => h) ⟨Or.inl ⟨by rfl, ?_⟩, by exact fun _ => rfl⟩ ?_
              rotate_left
              · (intro w; go_simp)
                try with_reducible rfl
              try simp only [Act.put, List.setIfInBounds_toArray, List.set_cons_zero, List.set_cons_succ]
              refine wpAnyIn_ready (rs := [8]) (by kernel_rfl) (by simp) ?_
              refine (AllReadyIn.cons (by simp only [List.getElem?_toArray, List.getElem?_cons_succ, List.getElem?_cons_zero]; rfl) (fun K hK => ?_) AllReadyIn.nil)
              go_simp
              refine hK _ _ ?_
              clear hK K
              try simp only [Act.put, List.setIfInBounds_toArray, List.set_cons_zero, List.set_cons_succ]
              refine wpAnyIn_done (by kernel_rfl) ?_ _
              try simp only [HW1.out, HW2.out, HW3.out]
              exact ⟨⟨HKF.out.size, HKF.out.same⟩, ⟨HKB.out.1, HKB.out.2⟩, H.out.2.2.2, H.out.2.2.1, by rw [HE1.out]; exact H.out.2.1, by rw [HE2.out]; exact H.out.1, ⟨HBB.out.os, HBB.out.tape, HBB.out.output, HBB.out.size, HBB.out.block⟩, HKK.out, HPRE.out⟩
          · go_simp
            refine hK _ _ ?_
            clear hK K
            try simp only [Act.put, List.setIfInBounds_toArray, List.set_cons_zero, List.set_cons_succ]
            refine wpAnyIn_take (i := 5) (v := ?_) rfl (by simp only [List.getElem?_toArray, List.getElem?_cons_succ, List.getElem?_cons_zero]; rfl) (by kernel_rfl) (by kernel_rfl) (by kernel_rfl) (by exact fun _ _ _ h => h) ⟨Or.inl ⟨by rfl, ?_⟩, by exact fun _ => rfl⟩ ?_
            rotate_left
            · (intro w; go_simp)
              try with_reducible rfl
            try simp only [Act.put, List.setIfInBounds_toArray, List.set_cons_zero, List.set_cons_succ]
            refine wpAnyIn_take (i := 6) (v := ?_) rfl (by simp only [List.getElem?_toArray, List.getElem?_cons_succ, List.getElem?_cons_zero]; rfl) (by kernel_rfl) (by kernel_rfl) (by kernel_rfl) (by exact fun _ _ _ h => h) ⟨Or.inl ⟨by rfl, ?_⟩, by exact fun _ => rfl⟩ ?_
            rotate_left
            · (intro w; go_simp)
              try with_reducible rfl
            try simp only [Act.put, List.setIfInBounds_toArray, List.set_cons_zero, List.set_cons_succ]
            refine wpAnyIn_ready (rs := [0]) (by kernel_rfl) (by simp) ?_
            refine (AllReadyIn.cons (by simp only [List.getElem?_toArray, List.getElem?_cons_succ, List.getElem?_cons_zero]; rfl) (fun K hK => ?_) AllReadyIn.nil)
            go_simp
            refine hK _ _ ?_
            clear hK K
            try simp only [Act.put, List.setIfInBounds_toArray, List.set_cons_zero, List.set_cons_succ]
            refine wpAnyIn_take (i := 1) (v := ?_) rfl (by simp only [List.getElem?_toArray, List.getElem?_cons_succ, List.getElem?_cons_zero]; rfl) (by kernel_rfl) (by kernel_rfl) (by kernel_rfl) (by exact fun _ _ _ h => h) ⟨Or.inl ⟨by rfl, ?_⟩, by exact fun _ => rfl⟩ ?_
            rotate_left
            · (intro w; go_simp)
              try with_reducible rfl
            try simp only [Act.put, List.setIfInBounds_toArray, List.set_cons_zero, List.set_cons_succ]
            refine wpAnyIn_ready (rs := [7]) (by kernel_rfl) (by simp) ?_
            refine (AllReadyIn.cons (by simp only [List.getElem?_toArray, List.getElem?_cons_succ, List.getElem?_cons_zero]; rfl) (fun K hK => ?_) AllReadyIn.nil)
            go_simp
            refine hK _ _ ?_
            clear hK K
            try simp only [Act.put, List.setIfInBounds_toArray, List.set_cons_zero, List.set_cons_succ]
            refine wpAnyIn_ready (rs := [8]) (by kernel_rfl) (by simp) ?_
            refine (AllReadyIn.cons (by simp only [List.getElem?_toArray, List.getElem?_cons_succ, List.getElem?_cons_zero]; rfl) (fun K hK => ?_) AllReadyIn.nil)
            go_simp
            refine hK _ _ ?_
            clear hK K
            try simp only [Act.put, List.setIfInBounds_toArray, List.set_cons_zero, List.set_cons_succ]
            refine wpAnyIn_done (by kernel_rfl) ?_ _
            try simp only [HW1.out, HW2.out, HW3.out]
            exact ⟨⟨HKF.out.size, HKF.out.same⟩, ⟨HKB.out.1, HKB.out.2⟩, H.out.2.2.2, H.out.2.2.1, by rw [HE1.out]; exact H.out.2.1, by rw [HE2.out]; exact H.out.1, ⟨HBB.out.os, HBB.out.tape, HBB.out.output, HBB.out.size, HBB.out.block⟩, HKK.out, HPRE.out⟩
        · have e2 := str_ne c2
          have hno : ¬ (pre ++ [x] <+: xs) := by
            rw [HIFF.out]
            rintro rfl
            exact c2 HXK.out.symm
          clear c2
          gi_wp2_with fail
          exact ⟨(KeepsOthers.setCell _ _ _).from _, hno⟩
      · have e1 : ((x.1 : Int) != (FM.next pre : Nat)) = true := by rw [bne_iff_ne]; omega
        have hno : ¬ (pre ++ [x] <+: xs) := by
          rw [HIFF.out]
          rintro rfl
          exact c1 HPOS.out
        clear c1
        gi_wp2_with fail
        exact ⟨(KeepsOthers.setCell _ _ _).from _, hno⟩
    case done2 =>
      rintro D2 ys W' hD2 hys ⟨hS, hW, hA, hI, hB, hK, hP⟩ hK2
      have hyx : ys.length = (pays xs).length := by rw [hys, HXS.out]; simp [pays]
      have hcI := hI.cell
      have hcW := hW.cell
      have hR : Boxed W' (w.heap.size + 1) 4 (.bool false) := (hB.block _ (by omega)).trans bR
      have hcR := hR.cell
      have hfR := hR.frozen
      have e1 : ((ys.length : Int) == (pays xs).length) = true := by rw [beq_iff_eq]; omega
      clear hyx hys
      gi_wp2_with fail
      have hD2W : D2 < W'.heap.size := (Array.getElem?_eq_some_iff.1 hK2).1
      have hRs := hR.set (.bool true)
      have hKs : (W'.setCell ⟨w.heap.size + 1, 0, none⟩ (.bool true)).heap[D]? = some (.deferred (some [])) := by
        rw [Below.heap_setCell _ _ _ _ (by show D ≠ w.heap.size + 1; omega)]; exact hK
      have hK2s : (W'.setCell ⟨w.heap.size + 1, 0, none⟩ (.bool true)).heap[D2]? = some (.deferred (some [])) := by
        rw [Below.heap_setCell _ _ _ _ (by show D2 ≠ w.heap.size + 1; omega)]; exact hK2
      have hBw : Below w.heap.size w (W'.setCell ⟨w.heap.size + 1, 0, none⟩ (.bool true)) := (hB4.out.trans (hB.mono (by omega))).setCell (p := ⟨w.heap.size + 1, 0, none⟩) (by show w.heap.size ≤ w.heap.size + 1; omega) _
      generalize W'.setCell ⟨w.heap.size + 1, 0, none⟩ (.bool true) = Wz at hRs hKs hK2s hBw ⊢
      refine ⟨by simp, .inl ⟨_, _, rfl, run_takeDeferred hK2s, ?_⟩⟩
      have hDD : D ≠ D2 := by omega
      have hKz : (Wz.putObj D2 (.deferred none)).heap[D]? = some (.deferred (some [])) := (World.putObj_heap_other hDD).trans hKs
      refine ⟨by simp, .inl ⟨_, _, rfl, run_takeDeferred hKz, ?_⟩⟩
      have hR2 : Boxed (Wz.putObj D2 (.deferred none)) (w.heap.size + 1) 4 _ := hRs.kept (grownBy_putObj' Wz D2 _) (fun e => by cases e; omega)
      have hR3 : Boxed ((Wz.putObj D2 (.deferred none)).putObj D (.deferred none)) (w.heap.size + 1) 4 _ := hR2.kept (grownBy_putObj' _ D _) (fun e => by cases e; omega)
      exact ⟨_, results_one rfl _ _ (w.heap.size + 1) _ rfl hR3.cell, rfl, (hBw.trans (belowK_b (w := w) (Nat.le_refl _) Wz D2 _ _ (by omega) hK2s rfl rfl)).trans (belowK_b (w := w) (Nat.le_refl _) _ D _ _ (by omega) hKz rfl rfl)⟩
    case stop2 =>
      rintro D2 c pre W' _ hys hno _
      rw [HXS.out] at hys
      exact (hno hys).elim
  case stop =>
    rintro D c pre W hD hys ⟨rfl, hS, hW, hA, ⟨i, hI⟩, hB⟩ hK
    clear hys
    have hwW := hB.size
    have hDW : D < W.heap.size := (Array.getElem?_eq_some_iff.1 hK).1
    have n1 : bs0 + 1 ≠ N0 + 1 := by omega
    have hI2 := (hI.set (.int .i64 0)).other n1 (.int .i64 0)
    have hA2 := (hA.other n1.symm (.int .i64 0)).set (.int .i64 0)
    have hW2 := (hW.other (show N0 ≠ bs0 + 1 by omega) (.int .i64 0)).other (show N0 ≠ N0 + 1 by omega) (.int .i64 0)
    have hS2 := (hS.other (show bs0 ≠ bs0 + 1 by omega) (.int .i64 0)).other (show bs0 ≠ N0 + 1 by omega) (.int .i64 0)
    have hB2 := (hB.setCell (p := ⟨bs0 + 1, 0, none⟩) (by show N0 ≤ bs0 + 1; omega) (.int .i64 0)).setCell (p := ⟨N0 + 1, 0, none⟩) (by show N0 ≤ N0 + 1; omega) (.int .i64 0)
    have hK2 : ((W.setCell ⟨bs0 + 1, 0, none⟩ (.int .i64 0)).setCell ⟨N0 + 1, 0, none⟩ (.int .i64 0)).heap[D]? = some (.deferred (some [])) := by
      rw [Below.heap_setCell _ _ _ _ (by show D ≠ N0 + 1; omega), Below.heap_setCell _ _ _ _ (by show D ≠ bs0 + 1; omega)]
      exact hK
    have hcI := hI.cell
    have hfI := hI.frozen
    have hcA := (hA.other n1.symm (.int .i64 0)).cell
    have hfA := (hA.other n1.symm (.int .i64 0)).frozen
    gi_wp2_with fail
    clear hcI hfI hcA hfA
    have hsz2 : ((W.setCell ⟨bs0 + 1, 0, none⟩ (.int .i64 0)).setCell ⟨N0 + 1, 0, none⟩ (.int .i64 0)).heap.size = W.heap.size := by simp
    clear hI hA hW hS hB hK
    generalize (W.setCell ⟨bs0 + 1, 0, none⟩ (.int .i64 0)).setCell ⟨N0 + 1, 0, none⟩ (.int .i64 0) = W9 at *
    refine' wpIn_rangeFunc_ownG rfl h1 (gf := 24) (lb := #[.pointer (some ⟨bs0, 0, none⟩)]) rfl trivial (enters_of Try.func24 (by kernel_rfl) rfl)
      (all_stops (n - 1) (by omega) bs0 s (by omega) W9 hS2.cell) KBox.trans (KBox.put (by omega)) (Below.refl _ _) (fun _ => rfl)
      (fun (pre : List (Nat × List UInt8)) W => Boxed W bs0 9 (.string s) ∧ Boxed W N0 32 (.slice A4 (pays xs).length c4) ∧ Boxed W (N0 + 1) 3 (.int .i64 (FM.next pre : Nat)) ∧ Boxed W (bs0 + 1) 3 (.int .i64 (pre.length : Nat)) ∧ Below N0 w4 W ∧ W.heap[D]? = some (.deferred (some [])) ∧ pre <+: xs)
      (fun _ (pre : List (Nat × List UInt8)) _ => ¬ (pre <+: xs))
      (OwnFrom.and (Own.from (boxed_own bs0 9 (fun _ => .string s)) _) (OwnFrom.and (Own.from (boxed_own N0 32 (fun _ => .slice A4 (pays xs).length c4)) _) (OwnFrom.and (Own.from (boxed_own (N0 + 1) 3 (fun (pre : List (Nat × List UInt8)) => .int .i64 (FM.next pre : Nat))) _) (OwnFrom.and (Own.from (boxed_own (bs0 + 1) 3 (fun (pre : List (Nat × List UInt8)) => .int .i64 (pre.length : Nat))) _) (OwnFrom.and (ownFrom_below (w₀ := w4) (by omega) (by omega)) (OwnFrom.and (ownFrom_block (by omega) _) (ownFrom_pure _ _)))))))
      (fun c => ownFrom_pure _ _)
      ⟨hS2, hW2, hA2, hI2, hB2, hK2, List.nil_prefix⟩ _ ?assign3 ?body3 ?done3 ?stop3
    case assign3 =>
      intro l x W K hK
      gi_wp2
      exact hK
    case body3 =>
      rintro l pre x W' ⟨hS, hW, hA, hI, hB, hK, hP⟩ hlt
      rw [HXS.out] at hlt
      have hcI := hI.cell
      have hfI := hI.frozen
      have hcA := hA.cell
      have hfA := hA.frozen
      have hcW := hW.cell
      have hpk : pre.length < (pays xs).length := by simpa [pays] using hlt
      obtain ⟨ad, hAd, hadb, hcell⟩ := (HA4.out.below hB (by omega)).at_ hpk
      have hxk : (pays xs)[pre.length] = bs xs[pre.length].2 := by simp [pays]
      have hiff := FM.prefix_at (x := x) hP hlt
      have hpos : xs[pre.length].1 = FM.next pre := by
        have := FM.chunk_pos s.data.toList (s.size + 1) 0 pre xs[pre.length] (by rw [HXS.out]; exact (FM.prefix_at hP hlt).2 rfl)
        omega
      have hnx : FM.next pre ≤ 16384 := by
        have := FM.next_le s.data.toList (s.size + 1) pre (by rw [HXS.out]; exact hP)
        have h2 : s.data.toList.length = s.size := rfl
        omega
      have hR : Boxed W' (w.heap.size + 1) 4 (.bool false) := (hB.block _ (by omega)).trans bR
      have hcR := hR.cell
      have hfR := hR.frozen
      have hge : ¬ (pays xs).length ≤ pre.length := by omega
      have hlti : (pre.length : Int) < (pays xs).length := by omega
      have hszW := hB.size
      have HIFF := Lib.hid hiff; have HPOS := Lib.hid hpos; have HXK := Lib.hid hxk
      clear hiff hpos hxk
      subst hAd
      generalize hy : (pays xs)[pre.length] = y at *
      clear hy
      by_cases c1 : x.1 = FM.next pre
      · have e1 : ((x.1 : Int) != (FM.next pre : Nat)) = false := by rw [bne_eq_false_iff_eq]; omega
        by_cases c2 : bs x.2 = y
        · have e2 := str_eq c2
          have hx : x = xs[pre.length] := Prod.ext (c1.trans HPOS.out.symm) (bs_inj (c2.trans HXK.out))
          have hpre : pre ++ [x] <+: xs := HIFF.out.2 hx
          have hin := chunks_in s.data.toList (s.size + 1) 0 (by omega) x (by rw [HXS.out]; exact hpre.subset (by simp))
          have hl2 : s.data.toList.length = s.size := rfl
          have hxs := bs_size x.2
          have hb1 : (FM.next pre : Int) + (bs x.2).size + 12 ≤ 16384 := by omega
          have hb2 : (pre.length : Int) + 1 ≤ 20000 := by omega
          have HPRE := Lib.hid hpre
          have HXSZ := Lib.hid hxs
          clear hx hpre hin hl2 hxs c2
          gi_wp2_with fail
          clear e1 e2 c1 hcell hcW hcR hfR hR hge hlti hnx HXK HPOS HIFF
          have hIs := (hI.set (.int .i64 ((pre.length : Int) + 1))).other n1 (.int .i64 ((FM.next pre : Int) + (bs x.2).size + 12))
          have hAs := (hA.other n1.symm (.int .i64 ((pre.length : Int) + 1))).set (.int .i64 ((FM.next pre : Int) + (bs x.2).size + 12))
          have hWs := (hW.other (show N0 ≠ bs0 + 1 by omega) (.int .i64 ((pre.length : Int) + 1))).other (show N0 ≠ N0 + 1 by omega) (.int .i64 ((FM.next pre : Int) + (bs x.2).size + 12))
          have hSs := (hS.other (show bs0 ≠ bs0 + 1 by omega) (.int .i64 ((pre.length : Int) + 1))).other (show bs0 ≠ N0 + 1 by omega) (.int .i64 ((FM.next pre : Int) + (bs x.2).size + 12))
          have hBs := (hB.setCell (p := ⟨bs0 + 1, 0, none⟩) (by show N0 ≤ bs0 + 1; omega) (.int .i64 ((pre.length : Int) + 1))).setCell (p := ⟨N0 + 1, 0, none⟩) (by show N0 ≤ N0 + 1; omega) (.int .i64 ((FM.next pre : Int) + (bs x.2).size + 12))
          have hKs : ((W'.setCell ⟨bs0 + 1, 0, none⟩ (.int .i64 ((pre.length : Int) + 1))).setCell ⟨N0 + 1, 0, none⟩ (.int .i64 ((FM.next pre : Int) + (bs x.2).size + 12))).heap[D]? = some (.deferred (some [])) := by
            rw [Below.heap_setCell _ _ _ _ (by show D ≠ N0 + 1; omega), Below.heap_setCell _ _ _ _ (by show D ≠ bs0 + 1; omega)]
            exact hK
          have hKF : KeepsFrom W9.heap.size W' ((W'.setCell ⟨bs0 + 1, 0, none⟩ (.int .i64 ((pre.length : Int) + 1))).setCell ⟨N0 + 1, 0, none⟩ (.int .i64 ((FM.next pre : Int) + (bs x.2).size + 12))) := ((KeepsOthers.setCell _ _ _).trans (KeepsOthers.setCell _ _ _)).from _
          have hKB : KBox bs0 W' ((W'.setCell ⟨bs0 + 1, 0, none⟩ (.int .i64 ((pre.length : Int) + 1))).setCell ⟨N0 + 1, 0, none⟩ (.int .i64 ((FM.next pre : Int) + (bs x.2).size + 12))) := ⟨by simp, hSs.trans hS.symm⟩
          have hE1 : ((FM.next (pre ++ [x]) : Nat) : Int) = (FM.next pre : Int) + (bs x.2).size + 12 := by rw [FM.next_snoc, HXSZ.out]; omega
          have hE2 : (((pre ++ [x]).length : Nat) : Int) = (pre.length : Int) + 1 := by simp
          have H := Lib.hid (And.intro hIs (And.intro hAs (And.intro hWs hSs)))
          have HBB := Lib.hid hBs; have HKK := Lib.hid hKs; have HKF := Lib.hid hKF; have HKB := Lib.hid hKB
          have HE1 := Lib.hid hE1; have HE2 := Lib.hid hE2
          clear hIs hAs hWs hSs hI hA hW hS hBs hKs hKF hKB hE1 hE2 HXSZ
          generalize (FM.next pre) = nx at *
          generalize pre.length = pl at *
          generalize bs x.2 = X at *
          have hw1 : IntKind.i64.wrap ((pl : Int) + 1) = pl + 1 := IntWalk.i64_in _ (by omega)
          have hw2 : IntKind.i64.wrap ((nx : Int) + X.size) = nx + X.size := IntWalk.i64_in _ (by omega)
          have hw3 : IntKind.i64.wrap ((nx : Int) + X.size + 12) = nx + X.size + 12 := IntWalk.i64_in _ (by omega)
          have HW1 := Lib.hid hw1; have HW2 := Lib.hid hw2; have HW3 := Lib.hid hw3
          refine wpIn_region_any (by kernel_rfl) ?_
          change wpAnyIn _ _ _ _ _ _ _ _ _ W'.drew
          refine wpAnyIn_round rfl l (fun i o hi => noDefer_spec (by kernel_rfl) i o hi) _ _ _ _ ?_
          refine wpAnyIn_take (i := 3) (v := ?_) rfl (by simp only [List.getElem?_toArray, List.getElem?_cons_succ, List.getElem?_cons_zero]; rfl) (by kernel_rfl) (by kernel_rfl) (by kernel_rfl) (by exact fun _ _ _ h => h) ⟨Or.inl ⟨by rfl, ?_⟩, by exact fun _ => rfl⟩ ?_
          rotate_left
          · (intro w; go_simp)
            try with_reducible rfl
          try simp only [Act.put, List.setIfInBounds_toArray, List.set_cons_zero, List.set_cons_succ]
          refine wpAnyIn_take (i := 4) (v := ?_) rfl (by simp only [List.getElem?_toArray, List.getElem?_cons_succ, List.getElem?_cons_zero]; rfl) (by kernel_rfl) (by kernel_rfl) (by kernel_rfl) (by exact fun _ _ _ h => h) ⟨Or.inl ⟨by rfl, ?_⟩, by exact fun _ => rfl⟩ ?_
          rotate_left
          · (intro w; go_simp)
            try with_reducible rfl
          try simp only [Act.put, List.setIfInBounds_toArray, List.set_cons_zero, List.set_cons_succ]
          refine wpAnyIn_ready (rs := [0, 2]) (by kernel_rfl) (by simp) ?_
          refine (AllReadyIn.cons (by simp only [List.getElem?_toArray, List.getElem?_cons_succ, List.getElem?_cons_zero]; rfl) (fun K hK => ?_) (AllReadyIn.cons (by simp only [List.getElem?_toArray, List.getElem?_cons_succ, List.getElem?_cons_zero]; rfl) (fun K hK => ?_) AllReadyIn.nil))
          · go_simp
            refine hK _ _ ?_
            clear hK K
            try simp only [Act.put, List.setIfInBounds_toArray, List.set_cons_zero, List.set_cons_succ]
            refine wpAnyIn_take (i := 1) (v := ?_) rfl (by simp only [List.getElem?_toArray, List.getElem?_cons_succ, List.getElem?_cons_zero]; rfl) (by kernel_rfl) (by kernel_rfl) (by kernel_rfl) (by exact fun _ _ _ h => h) ⟨Or.inl ⟨by rfl, ?_⟩, by exact fun _ => rfl⟩ ?_
            rotate_left
            · (intro w; go_simp)
              try with_reducible rfl
            try simp only [Act.put, List.setIfInBounds_toArray, List.set_cons_zero, List.set_cons_succ]
            refine wpAnyIn_ready (rs := [2, 7]) (by kernel_rfl) (by simp) ?_
            refine (AllReadyIn.cons (by simp only [List.getElem?_toArray, List.getElem?_cons_succ, List.getElem?_cons_zero]; rfl) (fun K hK => ?_) (AllReadyIn.cons (by simp only [List.getElem?_toArray, List.getElem?_cons_succ, List.getElem?_cons_zero]; rfl) (fun K hK => ?_) AllReadyIn.nil))
            · go_simp
              refine hK _ _ ?_
              clear hK K
              try simp only [Act.put, List.setIfInBounds_toArray, List.set_cons_zero, List.set_cons_succ]
              refine wpAnyIn_take (i := 5) (v := ?_) rfl (by simp only [List.getElem?_toArray, List.getElem?_cons_succ, List.getElem?_cons_zero]; rfl) (by kernel_rfl) (by kernel_rfl) (by kernel_rfl) (by exact fun _ _ _ h => h) ⟨Or.inl ⟨by rfl, ?_⟩, by exact fun _ => rfl⟩ ?_
              rotate_left
              · (intro w; go_simp)
                try with_reducible rfl
              try simp only [Act.put, List.setIfInBounds_toArray, List.set_cons_zero, List.set_cons_succ]
              refine wpAnyIn_take (i := 6) (v := ?_) rfl (by simp only [List.getElem?_toArray, List.getElem?_cons_succ, List.getElem?_cons_zero]; rfl) (by kernel_rfl) (by kernel_rfl) (by kernel_rfl) (by exact fun _ _ _ h => h) ⟨Or.inl ⟨by rfl, ?_⟩, by exact fun _ => rfl⟩ ?_
              rotate_left
              · (intro w; go_simp)
                try with_reducible rfl
              try simp only [Act.put, List.setIfInBounds_toArray, List.set_cons_zero, List.set_cons_succ]
              refine wpAnyIn_ready (rs := [7]) (by kernel_rfl) (by simp) ?_
              refine (AllReadyIn.cons (by simp only [List.getElem?_toArray, List.getElem?_cons_succ, List.getElem?_cons_zero]; rfl) (fun K hK => ?_) AllReadyIn.nil)
              go_simp
              refine hK _ _ ?_
              clear hK K
              try simp only [Act.put, List.setIfInBounds_toArray, List.set_cons_zero, List.set_cons_succ]
              refine wpAnyIn_ready (rs := [8]) (by kernel_rfl) (by simp) ?_
              refine (AllReadyIn.cons (by simp only [List.getElem?_toArray, List.getElem?_cons_succ, List.getElem?_cons_zero]; rfl) (fun K hK => ?_) AllReadyIn.nil)
              go_simp
              refine hK _ _ ?_
              clear hK K
              try simp only [Act.put, List.setIfInBounds_toArray, List.set_cons_zero, List.set_cons_succ]
              refine wpAnyIn_done (by kernel_rfl) ?_ _
              try simp only [HW1.out, HW2.out, HW3.out]
              exact ⟨⟨HKF.out.size, HKF.out.same⟩, ⟨HKB.out.1, HKB.out.2⟩, H.out.2.2.2, H.out.2.2.1, by rw [HE1.out]; exact H.out.2.1, by rw [HE2.out]; exact H.out.1, ⟨HBB.out.os, HBB.out.tape, HBB.out.output, HBB.out.size, HBB.out.block⟩, HKK.out, HPRE.out⟩
            · go_simp
              refine hK _ _ ?_
              clear hK K
              try simp only [Act.put, List.setIfInBounds_toArray, List.set_cons_zero, List.set_cons_succ]
              refine wpAnyIn_ready (rs := [2]) (by kernel_rfl) (by simp) ?_
              refine (AllReadyIn.cons (by simp only [List.getElem?_toArray, List.getElem?_cons_succ, List.getElem?_cons_zero]; rfl) (fun K hK => ?_) AllReadyIn.nil)
              go_simp
              refine hK _ _ ?_
              clear hK K
              try simp only [Act.put, List.setIfInBounds_toArray, List.set_cons_zero, List.set_cons_succ]
              refine wpAnyIn_take (i := 5) (v := ?_) rfl (by simp only [List.getElem?_toArray, List.getElem?_cons_succ, List.getElem?_cons_zero]; rfl) (by kernel_rfl) (by kernel_rfl) (by kernel_rfl) (by exact fun _ _ _ h => h) ⟨Or.inl ⟨by rfl, ?_⟩, by exact fun _ => rfl⟩ ?_
              rotate_left
              · (intro w; go_simp)
                try with_reducible rfl
              try simp only [Act.put, List.setIfInBounds_toArray, List.set_cons_zero, List.set_cons_succ]
              refine wpAnyIn_take (i := 6) (v := ?_) rfl (by simp only [List.getElem?_toArray, List.getElem?_cons_succ, List.getElem?_cons_zero]; rfl) (by kernel_rfl) (by kernel_rfl) (by kernel_rfl) (by exact fun _ _ _ h => h) ⟨Or.inl ⟨by rfl, ?_⟩, by exact fun _ => rfl⟩ ?_
              rotate_left
              · (intro w; go_simp)
                try with_reducible rfl
              try simp only [Act.put, List.setIfInBounds_toArray, List.set_cons_zero, List.set_cons_succ]
              refine wpAnyIn_ready (rs := [8]) (by kernel_rfl) (by simp) ?_
              refine (AllReadyIn.cons (by simp only [List.getElem?_toArray, List.getElem?_cons_succ, List.getElem?_cons_zero]; rfl) (fun K hK => ?_) AllReadyIn.nil)
              go_simp
              refine hK _ _ ?_
              clear hK K
              try simp only [Act.put, List.setIfInBounds_toArray, List.set_cons_zero, List.set_cons_succ]
              refine wpAnyIn_done (by kernel_rfl) ?_ _
              try simp only [HW1.out, HW2.out, HW3.out]
              exact ⟨⟨HKF.out.size, HKF.out.same⟩, ⟨HKB.out.1, HKB.out.2⟩, H.out.2.2.2, H.out.2.2.1, by rw [HE1.out]; exact H.out.2.1, by rw [HE2.out]; exact H.out.1, ⟨HBB.out.os, HBB.out.tape, HBB.out.output, HBB.out.size, HBB.out.block⟩, HKK.out, HPRE.out⟩
          · go_simp
            refine hK _ _ ?_
            clear hK K
            try simp only [Act.put, List.setIfInBounds_toArray, List.set_cons_zero, List.set_cons_succ]
            refine wpAnyIn_take (i := 5) (v := ?_) rfl (by simp only [List.getElem?_toArray, List.getElem?_cons_succ, List.getElem?_cons_zero]; rfl) (by kernel_rfl) (by kernel_rfl) (by kernel_rfl) (by exact fun _ _ _ h => h) ⟨Or.inl ⟨by rfl, ?_⟩, by exact fun _ => rfl⟩ ?_
            rotate_left
            · (intro w; go_simp)
              try with_reducible rfl
            try simp only [Act.put, List.setIfInBounds_toArray, List.set_cons_zero, List.set_cons_succ]
            refine wpAnyIn_take (i := 6) (v := ?_) rfl (by simp only [List.getElem?_toArray, List.getElem?_cons_succ, List.getElem?_cons_zero]; rfl) (by kernel_rfl) (by kernel_rfl) (by kernel_rfl) (by exact fun _ _ _ h => h) ⟨Or.inl ⟨by rfl, ?_⟩, by exact fun _ => rfl⟩ ?_
            rotate_left
            · (intro w; go_simp)
              try with_reducible rfl
            try simp only [Act.put, List.setIfInBounds_toArray, List.set_cons_zero, List.set_cons_succ]
            refine wpAnyIn_ready (rs := [0]) (by kernel_rfl) (by simp) ?_
            refine (AllReadyIn.cons (by simp only [List.getElem?_toArray, List.getElem?_cons_succ, List.getElem?_cons_zero]; rfl) (fun K hK => ?_) AllReadyIn.nil)
            go_simp
            refine hK _ _ ?_
            clear hK K
            try simp only [Act.put, List.setIfInBounds_toArray, List.set_cons_zero, List.set_cons_succ]
            refine wpAnyIn_take (i := 1) (v := ?_) rfl (by simp only [List.getElem?_toArray, List.getElem?_cons_succ, List.getElem?_cons_zero]; rfl) (by kernel_rfl) (by kernel_rfl) (by kernel_rfl) (by exact fun _ _ _ h => h) ⟨Or.inl ⟨by rfl, ?_⟩, by exact fun _ => rfl⟩ ?_
            rotate_left
            · (intro w; go_simp)
              try with_reducible rfl
            try simp only [Act.put, List.setIfInBounds_toArray, List.set_cons_zero, List.set_cons_succ]
            refine wpAnyIn_ready (rs := [7]) (by kernel_rfl) (by simp) ?_
            refine (AllReadyIn.cons (by simp only [List.getElem?_toArray, List.getElem?_cons_succ, List.getElem?_cons_zero]; rfl) (fun K hK => ?_) AllReadyIn.nil)
            go_simp
            refine hK _ _ ?_
            clear hK K
            try simp only [Act.put, List.setIfInBounds_toArray, List.set_cons_zero, List.set_cons_succ]
            refine wpAnyIn_ready (rs := [8]) (by kernel_rfl) (by simp) ?_
            refine (AllReadyIn.cons (by simp only [List.getElem?_toArray, List.getElem?_cons_succ, List.getElem?_cons_zero]; rfl) (fun K hK => ?_) AllReadyIn.nil)
            go_simp
            refine hK _ _ ?_
            clear hK K
            try simp only [Act.put, List.setIfInBounds_toArray, List.set_cons_zero, List.set_cons_succ]
            refine wpAnyIn_done (by kernel_rfl) ?_ _
            try simp only [HW1.out, HW2.out, HW3.out]
            exact ⟨⟨HKF.out.size, HKF.out.same⟩, ⟨HKB.out.1, HKB.out.2⟩, H.out.2.2.2, H.out.2.2.1, by rw [HE1.out]; exact H.out.2.1, by rw [HE2.out]; exact H.out.1, ⟨HBB.out.os, HBB.out.tape, HBB.out.output, HBB.out.size, HBB.out.block⟩, HKK.out, HPRE.out⟩
        · have e2 := str_ne c2
          have hno : ¬ (pre ++ [x] <+: xs) := by
            rw [HIFF.out]
            rintro rfl
            exact c2 HXK.out.symm
          clear c2
          gi_wp2_with fail
          exact ⟨(KeepsOthers.setCell _ _ _).from _, hno⟩
      · have e1 : ((x.1 : Int) != (FM.next pre : Nat)) = true := by rw [bne_iff_ne]; omega
        have hno : ¬ (pre ++ [x] <+: xs) := by
          rw [HIFF.out]
          rintro rfl
          exact c1 HPOS.out
        clear c1
        gi_wp2_with fail
        exact ⟨(KeepsOthers.setCell _ _ _).from _, hno⟩
    case done3 =>
      rintro D2 ys W' hD2 hys ⟨hS, hW, hA, hI, hB, hK, hP⟩ hK2
      have hyx : ys.length = (pays xs).length := by rw [hys, HXS.out]; simp [pays]
      have hcI := hI.cell
      have hcW := hW.cell
      have hR : Boxed W' (w.heap.size + 1) 4 (.bool false) := (hB.block _ (by omega)).trans bR
      have hcR := hR.cell
      have hfR := hR.frozen
      have e1 : ((ys.length : Int) == (pays xs).length) = true := by rw [beq_iff_eq]; omega
      clear hyx hys
      gi_wp2_with fail
      have hD2W : D2 < W'.heap.size := (Array.getElem?_eq_some_iff.1 hK2).1
      have hRs := hR.set (.bool true)
      have hKs : (W'.setCell ⟨w.heap.size + 1, 0, none⟩ (.bool true)).heap[D]? = some (.deferred (some [])) := by
        rw [Below.heap_setCell _ _ _ _ (by show D ≠ w.heap.size + 1; omega)]; exact hK
      have hK2s : (W'.setCell ⟨w.heap.size + 1, 0, none⟩ (.bool true)).heap[D2]? = some (.deferred (some [])) := by
        rw [Below.heap_setCell _ _ _ _ (by show D2 ≠ w.heap.size + 1; omega)]; exact hK2
      have hBw : Below w.heap.size w (W'.setCell ⟨w.heap.size + 1, 0, none⟩ (.bool true)) := (hB4.out.trans (hB.mono (by omega))).setCell (p := ⟨w.heap.size + 1, 0, none⟩) (by show w.heap.size ≤ w.heap.size + 1; omega) _
      generalize W'.setCell ⟨w.heap.size + 1, 0, none⟩ (.bool true) = Wz at hRs hKs hK2s hBw ⊢
      refine ⟨by simp, .inl ⟨_, _, rfl, run_takeDeferred hK2s, ?_⟩⟩
      have hDD : D ≠ D2 := by omega
      have hKz : (Wz.putObj D2 (.deferred none)).heap[D]? = some (.deferred (some [])) := (World.putObj_heap_other hDD).trans hKs
      refine ⟨by simp, .inl ⟨_, _, rfl, run_takeDeferred hKz, ?_⟩⟩
      have hR2 : Boxed (Wz.putObj D2 (.deferred none)) (w.heap.size + 1) 4 _ := hRs.kept (grownBy_putObj' Wz D2 _) (fun e => by cases e; omega)
      have hR3 : Boxed ((Wz.putObj D2 (.deferred none)).putObj D (.deferred none)) (w.heap.size + 1) 4 _ := hR2.kept (grownBy_putObj' _ D _) (fun e => by cases e; omega)
      exact ⟨_, results_one rfl _ _ (w.heap.size + 1) _ rfl hR3.cell, rfl, (hBw.trans (belowK_b (w := w) (Nat.le_refl _) Wz D2 _ _ (by omega) hK2s rfl rfl)).trans (belowK_b (w := w) (Nat.le_refl _) _ D _ _ (by omega) hKz rfl rfl)⟩
    case stop3 =>
      rintro D2 c pre W' _ hys hno _
      rw [HXS.out] at hys
      exact (hno hys).elim

end Go.Proofs.Ytcgojpdgcoddnaa
