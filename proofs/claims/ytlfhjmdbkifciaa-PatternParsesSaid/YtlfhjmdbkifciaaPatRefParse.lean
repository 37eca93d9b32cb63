/- The document's Parse: what the program's Parse tells. -/
import Derived.Test.YtlfhjmdbkifciaaPatRefTree
import Derived.Test.YtlfhjmdbkifciaaPatTrees
import Derived.Test.YtlfhjmdbkifciaaPatBackMath
import Derived.Test.YtlfhjmdbkifciaaPatRefScan2
namespace Go.Proofs.Ytlfhjmdbkifciaa
open Go.RowKit PM
namespace PM
theorem off_full : ∀ (w s : List UInt8) (k : Nat), lcp w s = w.length → off w s k = none
  | [], s, k, _ => rfl
  | c :: w, [], k, h => by simp [lcp] at h
  | c :: w, d :: t, k, h => by
    rw [lcp_step] at h
    by_cases e : c = d
    · subst e
      rw [if_pos rfl] at h
      simp only [off]; rw [if_pos trivial]
      exact off_full w t _ (by simpa using h)
    · rw [if_neg e] at h; simp at h
theorem off_part : ∀ (w s : List UInt8) (k : Nat), lcp w s ≠ w.length → off w s k = some (k + lcp w s)
  | [], s, k, h => absurd rfl h
  | c :: w, [], k, h => by simp [off, lcp]
  | c :: w, d :: t, k, h => by
    rw [lcp_step] at h ⊢
    by_cases e : c = d
    · subst e
      rw [if_pos rfl] at h ⊢
      simp only [off]; rw [if_pos trivial, off_part w t _ (fun x => h (by simp [x]))]
      congr 1; omega
    · rw [if_neg e] at h ⊢
      simp only [off]; rw [if_neg (fun x => e x.symm)]; rfl
theorem lcp_zero {w s : List UInt8} (hw : w ≠ []) : lcp w s = 0 ↔ ¬ s.head? = w.head? := by
  cases w with
  | nil => exact absurd rfl hw
  | cons c w =>
    cases s with
    | nil => simp [lcp]
    | cons d t =>
      simp only [lcp, List.head?_cons, Option.some.injEq]
      by_cases h : c = d
      · subst h; simp
      · have : ¬ d = c := fun e => h e.symm
        simp [h, this]
end PM

/-- a word tried, by how far the text goes with it -/
theorem pre_go {s : List UInt8} {i kd fr : Nat} (hp : preI s i = .at kd fr) (hi : i < 2) :
    (lcp (wordW (i + 2)) s = 0 → preI s (i + 1) = .at kd fr) ∧ (0 < lcp (wordW (i + 2)) s → lcp (wordW (i + 2)) s < (wordW (i + 2)).length → parse s = .bad 6 (lcp (wordW (i + 2)) s)) ∧
    (lcp (wordW (i + 2)) s = (wordW (i + 2)).length → preI s (i + 1) = .at (i + 2) (wordW (i + 2)).length) := by
  have h : i = 0 ∨ i = 1 := by omega
  rcases h with rfl | rfl
  · have hw : wordW (0 + 2) = globW := rfl
    rw [hw]
    have hd : globW.head? = some 103 := rfl
    refine ⟨fun h => ?_, fun h1 h2 => ?_, fun h => ?_⟩
    · exact pre_no0 hp (by rw [← hd]; exact (lcp_zero (by simp [globW])).1 h)
    · refine pre_bad0 (by rw [← hd]; exact Classical.byContradiction fun hn => by have := (lcp_zero (w := globW) (s := s) (by simp [globW])).2 hn; omega) ?_
      rw [off_part _ _ _ (by omega), Nat.zero_add]
    · refine pre_ok0 (by rw [← hd]; exact Classical.byContradiction fun hn => by have := (lcp_zero (w := globW) (s := s) (by simp [globW])).2 hn; have : globW.length = 5 := rfl; omega) ?_
      exact off_full _ _ _ h
  · have hw : wordW (1 + 2) = reW := rfl
    rw [hw]
    have hd : reW.head? = some 114 := rfl
    refine ⟨fun h => ?_, fun h1 h2 => ?_, fun h => ?_⟩
    · exact pre_no1 hp (by rw [← hd]; exact (lcp_zero (by simp [reW])).1 h)
    · refine pre_bad1 hp (by rw [← hd]; exact Classical.byContradiction fun hn => by have := (lcp_zero (w := reW) (s := s) (by simp [reW])).2 hn; omega) ?_
      rw [off_part _ _ _ (by omega), Nat.zero_add]
    · refine pre_ok1 hp (by rw [← hd]; exact Classical.byContradiction fun hn => by have := (lcp_zero (w := reW) (s := s) (by simp [reW])).2 hn; have : reW.length = 3 := rfl; omega) ?_
      exact off_full _ _ _ h

set_option maxRecDepth 100000 in
theorem rword_any (k : Nat) (w : World) : Calls Try.prog 41 #[.int .i64 k] w fun e w' => e = .returned (.string (bs (wordW k))) ∧ w = w' := by
  by_cases h2 : k = 2
  · subst h2
    go_enter Try.func41, Try.ntmps41
    go_wp2_with fail
    go_ret
    exact ⟨rfl, rfl⟩
  have x2 : ((k : Int) == 2) = false := by rw [beq_eq_false_iff_ne]; omega
  by_cases h3 : k = 3
  · subst h3
    clear x2 h2
    go_enter Try.func41, Try.ntmps41
    go_wp2_with fail
    go_ret
    exact ⟨rfl, rfl⟩
  have x3 : ((k : Int) == 3) = false := by rw [beq_eq_false_iff_ne]; omega
  have HW : Hid (wordW k = []) := Lib.hid (by unfold wordW; rw [if_neg h2, if_neg h3])
  clear h2 h3
  go_enter Try.func41, Try.ntmps41
  go_wp2_with fail
  go_ret
  exact ⟨by rw [HW.out]; rfl, rfl⟩

/-- what the document's Parse holds -/
structure RP (w wr : World) (kd : Nat) (t : ByteArray) : Prop where
  pp : PP w wr zP
  p : wr.heap[w.heap.size + 2]? = some (.cells #[.int .i64 kd, .string t] TPat (0, 0))
theorem RP.on {w wr w' : World} {kd : Nat} {t : ByteArray} (h : RP w wr kd t) (hb : Below wr.heap.size wr w') : RP w w' kd t := ⟨h.pp.on hb, (hb.block _ (lt_of_block h.p)).trans h.p⟩
theorem RP.drew {w wr : World} {kd : Nat} {t : ByteArray} (h : RP w wr kd t) (n : Nat) : RP w (wr.drewN n) kd t := h.on (below_drew _ _ n)
theorem PP.far {w wr : World} {X : Array Value} (h : PP w wr X) (i : Nat) (v : Value) : PP w (wr.setCell ⟨w.heap.size + 2, i, none⟩ v) X :=
  ⟨(Below.heap_setCell _ _ _ _ (by simp)).trans h.box, (Below.heap_setCell _ _ _ _ (by simp)).trans h.spot, h.up.setCell (by simp) _⟩
theorem RP.kind {w wr : World} {kd : Nat} {t : ByteArray} (h : RP w wr kd t) (k : Nat) : RP w (wr.setCell ⟨w.heap.size + 2, 0, none⟩ (.int .i64 k)) k t :=
  ⟨h.pp.far _ _, by have := heap_setCell_same wr (w.heap.size + 2) 0 _ _ (.int .i64 k) h.p; rw [this]; rfl⟩
theorem RP.text {w wr : World} {kd : Nat} {t : ByteArray} (h : RP w wr kd t) (s : ByteArray) : RP w (wr.setCell ⟨w.heap.size + 2, 1, none⟩ (.string s)) kd s :=
  ⟨h.pp.far _ _, by have := heap_setCell_same wr (w.heap.size + 2) 1 _ _ (.string s) h.p; rw [this]; rfl⟩
theorem RP.c0 {w wr : World} {kd : Nat} {t : ByteArray} (h : RP w wr kd t) : wr.cell? ⟨w.heap.size + 2, 0, none⟩ = some (.int .i64 kd) ∧ wr.cell? ⟨w.heap.size + 2, 1, none⟩ = some (.string t) ∧ wr.frozen? ⟨w.heap.size + 2, 0, none⟩ = false ∧ wr.frozen? ⟨w.heap.size + 2, 1, none⟩ = false :=
  ⟨by rw [cell_of_row _ _ 0 _ _ _ h.p]; rfl, by rw [cell_of_row _ _ 1 _ _ _ h.p]; rfl, frozen_of_row _ _ 0 _ _ h.p, frozen_of_row _ _ 1 _ _ h.p⟩
def rpW (w : World) : World := ((w.alloc (.cells zP TPat)).alloc (.cells (spotC 0 0) TSp)).alloc (.cells #[.int .i64 1, .string ⟨#[]⟩] TPat)
theorem rpW_facts (w : World) : RP w (rpW w) 1 ⟨#[]⟩ := by
  have h := parseW_facts w
  have hb := below_new (parseW w) (.cells #[.int .i64 1, .string ⟨#[]⟩] TPat)
  have hn := heap_alloc_new (parseW w) (.cells #[.int .i64 1, .string ⟨#[]⟩] TPat)
  rw [show (parseW w).heap.size = w.heap.size + 2 by simp [parseW]] at hn
  exact ⟨h.on hb, hn⟩

theorem results_pat {fn : Func} {p1 p2 : Tmp} (h : fn.results = #[.cell p1 TPat, .cell p2 TSp]) (tmps : Array Value) (W : World) (b1 b2 : Nat) (X Y : Array Value)
    (h1 : tmps.getD p1 undef = .pointer (some ⟨b1, 0, none⟩)) (h2 : tmps.getD p2 undef = .pointer (some ⟨b2, 0, none⟩)) (l1 : W.heap[b1]? = some (.cells X TPat (0, 0))) (hX : X.size = 2) (l2 : W.heap[b2]? = some (.cells Y TSp (0, 0))) (hY : Y.size = 2) :
    (results fn tmps).run Try.prog W = .ok (.tuple #[.agg X, .agg Y]) W :=
  results_rows2 h tmps W b1 b2 _ _ h1 h2 (load_pat W b1 X l1 hX) (load_spot W b2 Y l2 hY)

/-- both results stored -/
theorem PP.both {w wr : World} {X : Array Value} (h : PP w wr X) (Y : Array Value) (e k : Nat) : ((wr.setRow w.heap.size Y).setRow (w.heap.size + 1) (spotC e k)).heap[w.heap.size]? = some (.cells Y TPat (0, 0)) ∧
    ((wr.setRow w.heap.size Y).setRow (w.heap.size + 1) (spotC e k)).heap[w.heap.size + 1]? = some (.cells (spotC e k) TSp (0, 0)) ∧ Below w.heap.size w ((wr.setRow w.heap.size Y).setRow (w.heap.size + 1) (spotC e k)) := (h.put Y).putS e k

/-- a place where a word and a text are alike, or not -/
theorem alike_four (W s : ByteArray) (n : Nat) (h1 : n ≤ W.size) (h2 : n ≤ s.size) (hL : lcp W.data.toList s.data.toList = n + lcp (W.data.toList.drop n) (s.data.toList.drop n)) :
    (decide (n < W.size) = false ∧ (W.size : Int) ≤ n ∧ lcp W.data.toList s.data.toList = n) ∨ (decide (n < W.size) = true ∧ (n : Int) < W.size ∧ decide (n < s.size) = false ∧ (s.size : Int) ≤ n ∧ lcp W.data.toList s.data.toList = n) ∨
    (∃ (a : n < W.size) (b : n < s.size), decide (n < W.size) = true ∧ decide (n < s.size) = true ∧ ((s[n].toNat : Int) == (W[n].toNat : Int)) = false ∧ lcp W.data.toList s.data.toList = n) ∨
    (∃ (a : n < W.size) (b : n < s.size), decide (n < W.size) = true ∧ decide (n < s.size) = true ∧ ((s[n].toNat : Int) == (W[n].toNat : Int)) = true ∧ lcp W.data.toList s.data.toList = n + 1 + lcp (W.data.toList.drop (n + 1)) (s.data.toList.drop (n + 1))) := by
  by_cases a : n < W.size
  · by_cases b : n < s.size
    · rw [drop_at W n a, drop_at s n b] at hL
      simp only [lcp] at hL
      by_cases e : W[n] = s[n]
      · rw [if_pos e] at hL
        exact .inr (.inr (.inr ⟨a, b, by simpa using a, by simpa using b, by rw [e]; simp, by omega⟩))
      · rw [if_neg e] at hL
        exact .inr (.inr (.inl ⟨a, b, by simpa using a, by simpa using b, by rw [beq_eq_false_iff_ne]; exact fun h => e (u8_eq (by omega)), hL⟩))
    · rw [drop_end s n (by omega), lcp_nil_right] at hL
      exact .inr (.inl ⟨by simpa using a, by omega, by simp; omega, by omega, hL⟩)
  · rw [drop_end W n (by omega)] at hL
    exact .inl ⟨by simp; omega, by omega, by simpa [lcp] using hL⟩

set_option maxRecDepth 100000 in
set_option maxHeartbeats 16000000 in
theorem rparse_any (s : ByteArray) (w : World) (hs : s.size ≤ 100000000) :
    Calls Try.prog 19 #[.string s] w fun e w' => e = .returned (parseV (parse s.data.toList)) ∧ Below w.heap.size w w' := by
  have H0 := Lib.hid (rpW_facts w)
  go_enter Try.func19, Try.ntmps19
  go_wp2_with fail
  change Code.wp _ _ _ _ (rpW w)
  generalize rpW w = W0 at *
  go_loopg [5] 3 (fun k v5 wr => ∃ (i kd fr : Nat), v5 = .int .i64 ((i + 2 : Nat) : Int) ∧ i ≤ 2 ∧ 2 - i < k ∧ Hid (preI s.data.toList i = .at kd fr) ∧ Hid (RP w wr kd ⟨#[]⟩))
  case atStart => exact ⟨0, 1, 0, rfl, by omega, by omega, Lib.hid rfl, H0⟩
  case round =>
    clear H0
    obtain ⟨i, kd, fr, rfl, hi, hik, HPI, HP⟩ := hrel
    by_cases hlt : i < 2
    · have hi3 : ((i + 2 : Nat) : Int) ≤ 3 := by omega
      have hi4 : (0 : Int) ≤ ((i + 2 : Nat) : Int) := by omega
      have HGO := Lib.hid (pre_go HPI.out hlt)
      obtain ⟨j, hj⟩ : ∃ j, i + 2 = j := ⟨_, rfl⟩
      rw [hj] at hi3 hi4 HGO ⊢
      have HJ := Lib.hid hj
      have hwl : 0 < (wordW j).length ∧ (wordW j).length ≤ 5 := by
        have : j = 2 ∨ j = 3 := by omega
        rcases this with rfl | rfl <;> decide
      clear hj
      go_wp2_with fail
      refine (rword_any j wr).mono ?_
      rintro e w2 ⟨rfl, rfl⟩
      have hWs : (bs (wordW j)).size = (wordW j).length := bs_sz _
      rw [← hWs] at hwl
      have HGO2 : Hid (∀ n, lcp (bs (wordW j)).data.toList s.data.toList = n → (n = 0 → preI s.data.toList (i + 1) = .at kd fr) ∧ (0 < n → n < (bs (wordW j)).size → parse s.data.toList = .bad 6 n) ∧ (n = (bs (wordW j)).size → preI s.data.toList (i + 1) = .at j (bs (wordW j)).size)) :=
        Lib.hid (fun n h => by subst h; rw [hWs]; exact HGO.out)
      clear hWs HGO
      generalize bs (wordW j) = W at *
      obtain ⟨hw0, hw5⟩ := hwl
      have hw5' : (W.size : Int) ≤ 5 := by omega
      go_wp2_with fail
      obtain ⟨g0, hg0'⟩ : ∃ g0, g0 = gk := ⟨_, rfl⟩
      subst hg0'
      go_loopg [7] (W.size + 1) (fun k v7 wr2 => ∃ n : Nat, v7 = .int .i64 n ∧ n ≤ W.size ∧ n ≤ s.size ∧ W.size - n < k ∧ Hid (lcp W.data.toList s.data.toList = n + lcp (W.data.toList.drop n) (s.data.toList.drop n)) ∧ Hid (RP w wr2 kd ⟨#[]⟩))
      case atStart => exact ⟨0, rfl, by omega, by omega, by omega, Lib.hid (by simp), HP⟩
      case round =>
        clear HP
        obtain ⟨n, rfl, hnW, hns, hnk, HL, HP⟩ := hrel
        have hn0 : (0 : Int) ≤ n := by omega
        have hn5 : (n : Int) ≤ 5 := by omega
        rcases alike_four W s n hnW hns HL.out with ⟨d1, d2, hl⟩ | ⟨d1, d2, d3, d4, hl⟩ | ⟨a, b, d1, d2, d3, hl⟩ | ⟨a, b, d1, d2, d3, hl⟩
        case inr.inr.inr =>
          have HL2 := Lib.hid hl
          have a2 : (n : Int) < W.size := by omega
          have b2 : (n : Int) < s.size := by omega
          clear hl HL
          go_wp2_with fail
          go_quiet (fail)
          have HPQ := Lib.hid (HP.out.drew nq)
          go_wp2_with fail
          go_roundg (gk - 1)
          case measure => omega
          case rel => exact ⟨n + 1, by go_num, by omega, by omega, by omega, HL2, HPQ⟩
        case' inr.inr.inl =>
          have a2 : (n : Int) < W.size := by omega
          have b2 : (n : Int) < s.size := by omega
        case' inr.inl => have a : n < W.size := by simpa using d1
        all_goals
          have HG := Lib.hid (HGO2.out n hl)
          clear hl HL
          go_wp2_with fail
          go_quiet (fail)
          have HPQ := Lib.hid (HP.out.drew nq)
          generalize wr.drewN nq = wq at *
          clear HP d1
          try clear d2
          try clear d3
          try clear d4
          try clear a2
          try clear b2
          by_cases hn : n = 0
          · subst hn
            have HPN := Lib.hid (HG.out.1 rfl)
            go_wp2_with fail
            go_roundg (g0 - 1)
            case measure => omega
            case rel => exact ⟨i + 1, kd, fr, by rw [← HJ.out]; go_num, by omega, by omega, HPN, HPQ⟩
          have hnz : ((n : Int) == 0) = false := by rw [beq_eq_false_iff_ne]; omega
          by_cases hnW2 : n < W.size
          · have HBAD := Lib.hid (HG.out.2.1 (by omega) hnW2)
            have hnW3 : (n : Int) < W.size := by omega
            have hnW4 : decide (n < W.size) = true := by simpa using hnW2
            clear hn
            go_wp2_with fail
            refine (bad_any n wq).mono ?_
            rintro e w3 ⟨rfl, hb⟩
            have HP3 := Lib.hid (HPQ.out.on hb)
            have HB := Lib.hid (HP3.out.pp.put zP)
            have HQ := Lib.hid (HP3.out.pp.both zP 6 n)
            clear hb HPQ
            simp only [spotV, spotC]
            go_wp2_with (first | (refine wpList_store_row rfl TPat (.tmp 2) (.tmp 48) rfl w.heap.size zP rfl rfl TPat _ HP3.out.pp.box (by kernel_rfl) rfl (by simp [zP, Value.oneCell']) ?_) | (refine wpList_store_row rfl TSp (.tmp 3) (.tmp 50) rfl (w.heap.size + 1) (spotC 6 n) rfl rfl TSp _ HB.out.spot (by kernel_rfl) rfl (by simp [spotC, Value.oneCell']) ?_))
            exact bodyPost_ret (v := .tuple #[.agg zP, .agg (spotC 6 n)]) (results_pat rfl _ _ w.heap.size (w.heap.size + 1) _ _ rfl rfl HQ.out.1 rfl HQ.out.2.1 rfl) rfl ⟨by rw [HBAD.out]; rfl, HQ.out.2.2⟩
          · first
            | exact absurd a hnW2
            | (obtain rfl : n = W.size := by omega
               have HPN := Lib.hid (HG.out.2.2 rfl)
               have hex : ¬ ((W.size : Int) < W.size) := by omega
               have HP2 := Lib.hid (HPQ.out.kind j)
               obtain ⟨c0, c1, f0, f1⟩ := HPQ.out.c0
               clear HPQ hnW2
               go_wp2_with fail
               clear c0 c1 f0 f1
               go_roundg (g0 - 1)
               case measure => omega
               case rel => exact ⟨i + 1, j, W.size, by rw [← HJ.out]; go_num, by omega, by omega, HPN, HP2⟩)
    · obtain rfl : i = 2 := by omega
      have hp : pre s.data.toList = .at kd fr := HPI.out
      obtain ⟨hk, rfl, r0, hr0⟩ := pre_word hp
      have HPA : Hid (parse s.data.toList = parseAt kd (wordW kd).length s.data.toList) := Lib.hid (by unfold parse; rw [hp])
      have hwl : (wordW kd).length ≤ s.size := by have : s.data.toList.length = s.size := rfl; rw [← this, hr0]; simp
      have HK := Lib.hid hk
      obtain ⟨c0, c1, f0, f1⟩ := HP.out.c0
      clear hp hk hr0 HPI
      go_wp2_with fail
      refine (rword_any kd wr).mono ?_
      rintro e w2 ⟨rfl, rfl⟩
      have hWs : (bs (wordW kd)).size = (wordW kd).length := bs_sz _
      clear c0 c1 f0 f1
      go_wp2_with fail
      refine (rscan_any s (bs (wordW kd)).size wr hs (by rw [hWs]; exact hwl)).mono ?_
      rintro e w2 hm
      rw [hWs] at hm
      have hsl : s.data.toList.length = s.size := rfl
      obtain ⟨rr, hrr⟩ : ∃ rr, scan (-1) s.data.toList (wordW kd).length = rr := ⟨_, rfl⟩
      rw [hrr] at hm
      have HRR := Lib.hid hrr
      clear hWs
      rcases rr with ⟨out, pl⟩ | k | k
      case long => exact hm.elim
      case wrong =>
        obtain ⟨rfl, hb⟩ := hm
        have HP2 := Lib.hid (HP.out.on hb)
        have HBAD : Hid (parse s.data.toList = .bad 6 k) := Lib.hid (by rw [HPA.out]; unfold parseAt; rw [HRR.out])
        clear hb HP hrr
        go_wp2_with fail
        refine (bad_any k w2).mono ?_
        rintro e w3 ⟨rfl, hb⟩
        have HP3 := Lib.hid (HP2.out.on hb)
        have HB := Lib.hid (HP3.out.pp.put zP)
        have HQ := Lib.hid (HP3.out.pp.both zP 6 k)
        clear hb HP2
        simp only [spotV, spotC]
        go_wp2_with (first | (refine wpList_store_row rfl TPat (.tmp 2) (.tmp 72) rfl w.heap.size zP rfl rfl TPat _ HP3.out.pp.box (by kernel_rfl) rfl (by simp [zP, Value.oneCell']) ?_) | (refine wpList_store_row rfl TSp (.tmp 3) (.tmp 74) rfl (w.heap.size + 1) (spotC 6 k) rfl rfl TSp _ HB.out.spot (by kernel_rfl) rfl (by simp [spotC, Value.oneCell']) ?_))
        exact bodyPost_ret (v := .tuple #[.agg zP, .agg (spotC 6 k)]) (results_pat rfl _ _ w.heap.size (w.heap.size + 1) _ _ rfl rfl HQ.out.1 rfl HQ.out.2.1 rfl) rfl ⟨by rw [HBAD.out]; rfl, HQ.out.2.2⟩
      obtain ⟨v, rfl, hown, hb⟩ := hm
      obtain ⟨hne, hmem, hlen⟩ := scan_places hrr
      have holen := scan_len hrr
      obtain ⟨n, hn⟩ : ∃ n, pl.length = n + 1 := ⟨out.length, hlen⟩
      obtain ⟨g, cap, rfl, hgB, hgl⟩ := hown.form (by omega)
      have hcs : ∀ i x, pl[i]? = some x → w2.cell? ⟨g, i, none⟩ = some (.int .i64 (x : Nat)) := fun i x hx => by
        have := hown.cells (g := g) rfl i (.int .i64 (x : Nat)) (by unfold intC; rw [List.getElem?_map, hx]; rfl)
        rw [Addr.add_lit, Nat.zero_add] at this
        exact this
      have HCS := Lib.hid hcs
      have HP2 := Lib.hid (HP.out.on hb)
      have hgb : w.heap.size + 3 ≤ g := by have := lt_of_block HP.out.p; omega
      obtain ⟨m, hm⟩ : ∃ m : Nat, pl.getLastD 0 = m := ⟨_, rfl⟩
      have hml : m ≤ s.size := by
        have h1 := hmem _ (List.mem_of_getElem? (last_get pl n hn))
        rw [hm] at h1; omega
      have hmi : (m : Int) ≤ 100000000 := by omega
      have HLEN := Lib.hid hlen
      have HPA2 := HPA.out
      unfold parseAt at HPA2
      rw [HRR.out] at HPA2
      simp only [hm] at HPA2
      rw [hm]
      have hkd : 1 ≤ kd ∧ kd ≤ 3 := by have := HK.out; omega
      obtain ⟨hkd1, hkd3⟩ := hkd
      have hn0 : (0 : Int) ≤ n := by omega
      have hn1 : (n : Int) ≤ 100000001 := by have : out.length = n := by omega
                                             omega
      have HPL := Lib.hid hn
      have hos : (bs out).size ≤ 100000000 := by rw [bs_sz]; omega
      rw [hn]
      clear hown hb hm hne hmem HP HPA hn hlen hcs hrr HRR holen
      by_cases hlt : m + 1 < s.size
      · have HBAD : Hid (parse s.data.toList = .bad 6 (m + 1)) := Lib.hid (by rw [HPA2, if_pos (show m + 1 < s.data.toList.length from hlt)])
        have hlt3 : (m : Int) + 1 < s.size := by omega
        clear HPA2 HCS
        go_wp2_with fail
        refine (bad_any (m + 1) w2).mono ?_
        rintro e w3 ⟨rfl, hb⟩
        have HP3 := Lib.hid (HP2.out.on hb)
        have HB := Lib.hid (HP3.out.pp.put zP)
        have HQ := Lib.hid (HP3.out.pp.both zP 6 (m + 1))
        clear hb HP2
        simp only [spotV, spotC]
        go_wp2_with (first | (refine wpList_store_row rfl TPat (.tmp 2) (.tmp 72) rfl w.heap.size zP rfl rfl TPat _ HP3.out.pp.box (by kernel_rfl) rfl (by simp [zP, Value.oneCell']) ?_) | (refine wpList_store_row rfl TSp (.tmp 3) (.tmp 74) rfl (w.heap.size + 1) (spotC 6 (m + 1)) rfl rfl TSp _ HB.out.spot (by kernel_rfl) rfl (by simp [spotC, Value.oneCell']) ?_))
        exact bodyPost_ret (v := .tuple #[.agg zP, .agg (spotC 6 (m + 1))]) (results_pat rfl _ _ w.heap.size (w.heap.size + 1) _ _ rfl rfl HQ.out.1 rfl HQ.out.2.1 rfl) rfl ⟨by rw [HBAD.out]; rfl, HQ.out.2.2⟩
      rw [if_neg (show ¬ m + 1 < s.data.toList.length from hlt)] at HPA2
      have HPA3 := Lib.hid HPA2
      have hlt3 : ¬ (m : Int) + 1 < s.size := by omega
      obtain ⟨c0, c1, f0, f1⟩ := HP2.out.c0
      have HP3 := Lib.hid (HP2.out.text (bs out))
      clear HPA2
      go_upto_region 17 with (fail)
      have HC4 : Hid (∀ i x, pl[i]? = some x → (w2.setCell ⟨w.heap.size + 2, 1, none⟩ (.string (bs out))).cell? ⟨g, i, none⟩ = some (.int .i64 (x : Nat))) := Lib.hid (fun i x hx => (cell_congr (Below.heap_setCell _ _ _ _ (by simp; omega))).trans (HCS.out i x hx))
      have hg4 : g < (w2.setCell ⟨w.heap.size + 2, 1, none⟩ (.string (bs out))).heap.size := by simp; exact hgl
      clear c0 c1 f0 f1 HP2 HCS hgl
      generalize w2.setCell ⟨w.heap.size + 2, 1, none⟩ (.string (bs out)) = W4 at *
      obtain ⟨c0, c1, f0, f1⟩ := HP3.out.c0
      go_wp2_with fail
      refine (rtree_any kd (bs out) W4 (by omega)).mono ?_
      rintro e w5 ht
      clear c0 c1 f0 f1
      obtain ⟨r, hr⟩ : ∃ r, tree (kd : Int) (bs out).data.toList = r := ⟨_, rfl⟩
      rw [hr] at ht
      have HTR := Lib.hid (show tree kd out = r from hr)
      clear hr
      rcases tree_badly HTR.out hkd1 hkd3 HLEN.out ht with ⟨t, rfl⟩ | ⟨ec, ak, x, rfl, hpx, hec, hak, hb, hpr⟩
      · obtain ⟨K, rfl, hK, hb⟩ := ht
        obtain ⟨A, c, rfl⟩ := hK.slice
        have HRES : Hid (parse s.data.toList = .ok kd out) := Lib.hid (by rw [HPA3.out, HTR.out])
        have HP5 := Lib.hid (HP3.out.on hb)
        obtain ⟨hA, hAB⟩ := TrAt.made hK
        have HA := Lib.hid hA
        have HP6 := Lib.hid (HP5.out.on hAB)
        clear hK hb hA hAB HPA3 HTR HC4 HP3 HP5 hg4
        simp only [nodeV, spotV, spotC, nodeC]
        go_upto_region 18 with (fail)
        generalize (w5.alloc (.cells #[.int .i64 t.op, .int .u64 (PM.word t.set 0), .int .u64 (PM.word t.set 1), .int .u64 (PM.word t.set 2), .int .u64 (PM.word t.set 3), .slice A t.kids.length c] TN)).alloc (.cells #[.int .i64 0, .int .i64 0] TSp) = W6 at *
        generalize w5.heap.size = B at *
        have r0 := HA.out.err.1
        obtain ⟨c0, c1, f0, f1⟩ := HP6.out.c0
        have HP7 := Lib.hid (HP6.out.pp.put #[.int .i64 kd, .string (bs out)])
        have HP8 := Lib.hid (HP6.out.pp.both #[.int .i64 kd, .string (bs out)] 0 0)
        go_wp2_with (first | (refine wpList_store_row rfl TPat (.tmp 2) (.tmp 94) rfl w.heap.size #[.int .i64 kd, .string (bs out)] rfl rfl TPat _ HP6.out.pp.box (by kernel_rfl) rfl (by simp [Value.oneCell']) ?_; clear c0 c1) | (refine wpList_store_row rfl TSp (.tmp 3) (.tmp 95) rfl (w.heap.size + 1) (spotC 0 0) rfl rfl TSp _ HP7.out.spot (by kernel_rfl) rfl (by simp [spotC, Value.oneCell']) ?_))
        exact bodyPost_ret (v := .tuple #[.agg #[.int .i64 kd, .string (bs out)], .agg (spotC 0 0)]) (results_pat rfl _ _ w.heap.size (w.heap.size + 1) _ _ rfl rfl HP8.out.1 rfl HP8.out.2.1 rfl) rfl ⟨by rw [HRES.out]; rfl, HP8.out.2.2⟩
      · have HRES : Hid (parse s.data.toList = .bad ec x) := Lib.hid (by rw [HPA3.out, HTR.out, ← hpr]; cases r <;> rfl)
        have HP5 := Lib.hid (HP3.out.on hb)
        have hc5 := (cell_congr (i := ak) (hb.block g hg4)).trans (HC4.out ak x hpx)
        have hg5 : g < w5.heap.size := Nat.lt_of_lt_of_le hg4 hb.size
        obtain ⟨n1, n2, hAB⟩ := two_at w5 zN #[.int .i64 ec, .int .i64 ak] TN TSp
        have HP6 := Lib.hid (HP5.out.on hAB)
        have HS6 := Lib.hid n2
        have hc6 := (cell_congr (i := ak) (hAB.block g hg5)).trans hc5
        have HC6 := Lib.hid hc6
        have hx0 : ((ec : Int) != 0) = true := by rcases hec with rfl | rfl <;> rfl
        have hak0 : (0 : Int) ≤ ak := by omega
        have hak1 : (ak : Int) < (n : Int) + 1 := by have := HPL.out; omega
        have hb2 : w.heap.size + 3 ≤ w5.heap.size := by omega
        clear hb HPA3 HTR HC4 HP3 hg4 HP5 hc5 n1 n2 hAB hc6 hpr ht hpx hak hec
        simp only [spotV, spotC, zN] at HP6 HS6 HC6 ⊢
        go_upto_region 18 with (fail)
        generalize (w5.alloc (.cells #[.int .i64 0, .int .u64 0, .int .u64 0, .int .u64 0, .int .u64 0, .slice none 0 0] TN)).alloc (.cells #[.int .i64 ec, .int .i64 ak] TSp) = W6 at *
        have s0' : W6.cell? ⟨w5.heap.size + 1, 0, none⟩ = some (.int .i64 ec) := by rw [cell_of_row _ _ 0 _ _ _ HS6.out]; rfl
        go_upto_region 19 with (fail)
        clear s0'
        obtain ⟨B2, hB2⟩ : ∃ B2, w5.heap.size = B2 := ⟨_, rfl⟩
        rw [hB2] at HS6 hg5 hb2 ⊢
        obtain ⟨B0, hB0⟩ : ∃ B0, w.heap.size = B0 := ⟨_, rfl⟩
        have hbox := HP6.out.pp.box; have hspot := HP6.out.pp.spot
        rw [hB0] at hbox hspot hb2 hgb
        rw [hB0]
        have c0 : W6.cell? ⟨B0, 0, none⟩ = some (.int .i64 0) := by rw [cell_of_row _ _ 0 _ _ _ hbox]; rfl
        have c1 : W6.cell? ⟨B0, 1, none⟩ = some (.string ⟨#[]⟩) := by rw [cell_of_row _ _ 1 _ _ _ hbox]; rfl
        have f0 : W6.frozen? ⟨B0, 0, none⟩ = false := frozen_of_row _ _ 0 _ _ hbox
        have f1 : W6.frozen? ⟨B0, 1, none⟩ = false := frozen_of_row _ _ 1 _ _ hbox
        have e0 : W6.cell? ⟨B0 + 1, 0, none⟩ = some (.int .i64 0) := by rw [cell_of_row _ _ 0 _ _ _ hspot]; rfl
        have e1 : W6.cell? ⟨B0 + 1, 1, none⟩ = some (.int .i64 0) := by rw [cell_of_row _ _ 1 _ _ _ hspot]; rfl
        have g0 : W6.frozen? ⟨B0 + 1, 0, none⟩ = false := frozen_of_row _ _ 0 _ _ hspot
        have g1 : W6.frozen? ⟨B0 + 1, 1, none⟩ = false := frozen_of_row _ _ 1 _ _ hspot
        have s0 : W6.cell? ⟨B2 + 1, 0, none⟩ = some (.int .i64 ec) := by rw [cell_of_row _ _ 0 _ _ _ HS6.out]; rfl
        have s1 : W6.cell? ⟨B2 + 1, 1, none⟩ = some (.int .i64 ak) := by rw [cell_of_row _ _ 1 _ _ _ HS6.out]; rfl
        have hcx := HC6.out
        have i1 : ¬ g = B0 := by omega
        have i2 : ¬ B0 = g := by omega
        have i3 : ¬ g = B0 + 1 := by omega
        have i4 : ¬ B0 + 1 = g := by omega
        have i5 : ¬ B2 + 1 = B0 := by omega
        have i6 : ¬ B0 = B2 + 1 := by omega
        have i7 : ¬ B2 = B0 := by omega
        have i8 : ¬ B0 = B2 := by omega
        clear hbox hspot
        have HWI := Lib.hid (HP6.out.pp.wipe ec x)
        go_region_held3 (fun w' => w'.cell? ⟨B2 + 1, 0, none⟩ = some (.int .i64 ec) ∧ w'.cell? ⟨B2 + 1, 1, none⟩ = some (.int .i64 ak) ∧ w'.cell? ⟨g, ak, none⟩ = some (.int .i64 x)) (go_keep) (fail)
        subst hB0
        clear c0 c1 f0 f1 e0 e1 g0 g1 s0 s1 hcx
        all_goals
          go_wp2_with fail
          exact bodyPost_ret (v := .tuple #[.agg zP, .agg (spotC ec x)]) (results_pat rfl _ _ w.heap.size (w.heap.size + 1) _ _ rfl rfl HWI.out.1 rfl HWI.out.2.1 rfl) rfl ⟨by rw [HRES.out]; rfl, HWI.out.2.2⟩
end Go.Proofs.Ytlfhjmdbkifciaa
