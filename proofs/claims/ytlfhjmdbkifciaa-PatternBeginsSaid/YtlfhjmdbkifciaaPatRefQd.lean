/- The document's Quoted. -/
import Derived.Test.YtlfhjmdbkifciaaPatBeg
import Derived.Test.YtlfhjmdbkifciaaPatRefUnq
import Derived.Deep.RegionHeld3
import Derived.Deep.LoopGhost
namespace Go.Proofs.Ytlfhjmdbkifciaa
open Go.RowKit PM

theorem results_tt_row {fn : Func} {p1 p2 p3 : Tmp} {t3 : TypeId} (h : fn.results = #[.tmp p1, .tmp p2, .cell p3 t3]) (tmps : Array Value) (W : World) (b2 : Nat) (X Z Y : Value)
    (h1 : tmps.getD p1 undef = X) (hz : tmps.getD p2 undef = Z) (h2 : tmps.getD p3 undef = .pointer (some ⟨b2, 0, none⟩)) (l2 : (loadVar t3 ⟨b2, 0, none⟩).run Try.prog W = .ok Y W) :
    (results fn tmps).run Try.prog W = .ok (.tuple #[X, Z, Y]) W := by
  have h1' : tmps[p1]?.getD undef = X := by simpa using h1
  have hz' : tmps[p2]?.getD undef = Z := by simpa using hz
  have h2' : tmps[p3]?.getD undef = .pointer (some ⟨b2, 0, none⟩) := by simpa using h2
  simp [results, h, h1', hz', h2', asAddr, l2]

/-- what was read, as the document's Quoted holds it: a value of Scan's four -/
structure QD (w wr : World) (r : Sc) (v7 v8 v9 v10 : Value) : Prop where
  box : wr.heap[w.heap.size]? = some (.cells (spotC 0 0) TSp (0, 0))
  up : Below w.heap.size w wr
  val : match r with
    | .ok out pl => v7 = .string (bs out) ∧ (∃ g n cap, v8 = .slice (some ⟨g, 0, none⟩) (n + 1) cap ∧ pl.length = n + 1 ∧ w.heap.size + 1 ≤ g ∧ wr.cell? ⟨g, n, none⟩ = some (.int .i64 (pl.getLastD 0 : Nat))) ∧ v9 = .int .i64 (pl.getLastD 0 + 1 : Nat) ∧ v10 = .bool true
    | .wrong k => v7 = .string ⟨#[]⟩ ∧ v8 = .slice none 0 0 ∧ v9 = .int .i64 (k : Nat) ∧ v10 = .bool false
    | .long _ => False

theorem QD.on {w wr w' : World} {r : Sc} {v7 v8 v9 v10 : Value} (h : QD w wr r v7 v8 v9 v10) (hb : Below wr.heap.size wr w') : QD w w' r v7 v8 v9 v10 := by
  refine ⟨(hb.block _ (lt_of_block h.box)).trans h.box, below_then h.up hb (Nat.le_refl _), ?_⟩
  have hv := h.val
  rcases r with ⟨out, pl⟩ | k | k
  · obtain ⟨h1, ⟨g, n, cap, h2, h3, h4, h5⟩, h6⟩ := hv
    have hg : g < wr.heap.size := by
      rcases Nat.lt_or_ge g wr.heap.size with h | h
      · exact h
      · simp [World.cell?, Array.getElem?_eq_none_iff.2 h] at h5
    exact ⟨h1, ⟨g, n, cap, h2, h3, h4, (cell_congr (hb.block g hg)).trans h5⟩, h6⟩
  · exact hv
  · exact hv.elim

set_option maxRecDepth 100000 in
set_option maxHeartbeats 4000000 in
theorem rquoted_any (s : ByteArray) (most : Int) (w : World) (hs : s.size ≤ 100000000) (hm1 : -9223372036854775808 ≤ most) (hm2 : most ≤ 9223372036854775807) :
    Calls Try.prog 25 #[.string s, .int .i64 most] w fun e w' => e = .returned (quotedV (scan (max most (-1)) s.data.toList 0)) ∧ Below w.heap.size w w' := by
  have HS := Lib.hid (heap_alloc_new w (.cells (spotC 0 0) TSp)); have HB := Lib.hid (below_new w (.cells (spotC 0 0) TSp))
  have HZ := Lib.hid (show (w.alloc (.cells (spotC 0 0) TSp)).heap.size = w.heap.size + 1 by simp)
  go_enter Try.func25, Try.ntmps25
  go_wp2_with fail
  change Calls _ _ _ (w.alloc (.cells (spotC 0 0) TSp)) _
  generalize w.alloc (.cells (spotC 0 0) TSp) = W0 at *
  refine (rscan_any s 0 W0 hs (Nat.zero_le _)).mono ?_
  rintro e w1 hm
  obtain ⟨r, hr⟩ : ∃ r, scan (-1) s.data.toList 0 = r := ⟨_, rfl⟩
  rw [hr] at hm
  have HRR := Lib.hid hr
  clear hr
  obtain ⟨v7, v8, v9, v10, rfl, hQ⟩ : ∃ v7 v8 v9 v10, e = .returned (.tuple #[v7, v8, v9, v10]) ∧ QD w w1 r v7 v8 v9 v10 := by
    rcases r with ⟨out, pl⟩ | k | k
    · obtain ⟨v, rfl, hown, hb⟩ := hm
      obtain ⟨hne, -, -⟩ := scan_places HRR.out
      obtain ⟨n, hn⟩ : ∃ n, pl.length = n + 1 := ⟨pl.length - 1, by have := List.length_pos_iff.2 hne; omega⟩
      obtain ⟨g, cap, rfl, hgB, hgl⟩ := hown.form (by omega)
      have hlast : (intC pl)[n]? = some (.int .i64 (pl.getLastD 0 : Nat)) := by
        unfold intC; rw [List.getElem?_map, last_get pl n hn]; rfl
      have hcell := hown.cells (g := g) rfl n _ hlast
      rw [Addr.add_lit, Nat.zero_add] at hcell
      exact ⟨_, _, _, _, rfl, (hb.block _ (lt_of_block HS.out)).trans HS.out, below_then HB.out hb (Nat.le_refl _), rfl, ⟨g, n, cap, by rw [hn], hn, by rw [← HZ.out]; exact hgB, hcell⟩, rfl, rfl⟩
    · obtain ⟨rfl, hb⟩ := hm
      exact ⟨_, _, _, _, rfl, (hb.block _ (lt_of_block HS.out)).trans HS.out, below_then HB.out hb (Nat.le_refl _), rfl, rfl, rfl, rfl⟩
    · exact hm.elim
  have HQ := Lib.hid hQ
  clear hQ hm HS HB HZ
  by_cases hneg : most < 0
  · have HV : Hid (quotedV (scan (max most (-1)) s.data.toList 0) = quotedV r) := Lib.hid (by rw [show max most (-1) = -1 by omega, HRR.out])
    have hd0 : decide ((0 : Int) ≤ most) = false := by simp; omega
    rcases r with ⟨out, pl⟩ | k | k
    · obtain ⟨rfl, ⟨g, m, cap, rfl, hn, hg, hc⟩, rfl, rfl⟩ := HQ.out.val
      obtain ⟨x, hx⟩ : ∃ x : Nat, pl.getLastD 0 = x := ⟨_, rfl⟩
      have HV2 : Hid (quotedV (scan (max most (-1)) s.data.toList 0) = .tuple #[.string (bs out), .int .i64 (x + 1 : Nat), spotV 0 0]) := Lib.hid (by rw [HV.out, ← hx]; rfl)
      have hxb : x < s.data.toList.length := by
        obtain ⟨-, hmem, -⟩ := scan_places HRR.out
        rw [← hx]; exact hmem _ (List.mem_of_getElem? (last_get pl m hn))
      have hml : m ≤ 100000000 := by
        have h1 := scan_len HRR.out
        obtain ⟨-, -, h3⟩ := scan_places HRR.out
        have h2 : s.data.toList.length = s.size := rfl
        omega
      have hxl : (x : Int) ≤ 100000001 := by
        have h2 : s.data.toList.length = s.size := rfl
        omega
      rw [hx] at hc ⊢
      have HBX := Lib.hid HQ.out.box
      have HUP := Lib.hid HQ.out.up
      have s0 : w1.cell? ⟨w.heap.size, 0, none⟩ = some (.int .i64 0) := by rw [cell_of_row _ _ 0 _ _ _ HBX.out]; rfl
      have s1 : w1.cell? ⟨w.heap.size, 1, none⟩ = some (.int .i64 0) := by rw [cell_of_row _ _ 1 _ _ _ HBX.out]; rfl
      have s2 : w1.frozen? ⟨w.heap.size, 0, none⟩ = false := frozen_of_row _ _ 0 _ _ HBX.out
      have s3 : w1.frozen? ⟨w.heap.size, 1, none⟩ = false := frozen_of_row _ _ 1 _ _ HBX.out
      have i1 : ¬ g = w.heap.size := by omega
      have i2 : ¬ w.heap.size = g := by omega
      have hm0 : (0 : Int) ≤ m := by omega
      have hm1' : (m : Int) < (m : Int) + 1 := by omega
      have hm2' : (m : Int) + 1 - 1 = m := by omega
      have hm3' : (m : Int) ≤ 100000001 := by omega
      have hw3 : IntKind.i64.wrap ((m : Int) + 1 - 1) = m := (by rw [hm2']; exact IntWalk.i64_in _ (by omega))
      have hw2 : IntKind.i64.wrap ((x : Int) + 1) = x + 1 := IntWalk.i64_in _ (by omega)
      have hw1 : IntKind.i64.wrap (m : Int) = m := IntWalk.i64_in _ (by omega)
      clear HV HQ hn hg hml hx hxb HRR
      go_wp2_with fail
      go_region
      go_wp2_with fail
      exact bodyPost_ret (results_tt_row rfl _ _ w.heap.size _ _ _ rfl rfl rfl (load_spot _ _ _ (spot_set HBX.out _ _) rfl)) rfl ⟨by rw [HV2.out]; rfl, HUP.out.trans (below_spot_set _ _ _ _ _ (Nat.le_refl _))⟩
    · obtain ⟨rfl, rfl, rfl, rfl⟩ := HQ.out.val
      have HBX := Lib.hid HQ.out.box
      have HUP := Lib.hid HQ.out.up
      clear HQ HRR
      go_wp2_with fail
      refine (bad_any k w1).mono ?_
      rintro e w7 ⟨rfl, hb7⟩
      have HS2 := Lib.hid ((hb7.block _ (lt_of_block HBX.out)).trans HBX.out)
      have HB2 := Lib.hid (below_then HUP.out hb7 (Nat.le_refl _))
      simp only [spotV, spotC]
      clear hb7 HBX HUP
      go_wp2_with (refine wpList_store_row rfl TSp (.tmp 6) (.tmp 82) rfl w.heap.size (spotC 6 k) rfl rfl TSp (spotC 0 0) HS2.out (by kernel_rfl) rfl (by simp [spotC, Value.oneCell']) ?_)
      exact bodyPost_ret (results_tt_row rfl _ _ w.heap.size _ _ _ rfl rfl rfl (load_spot _ _ _ (setRow_heap _ _ _ _ _ _ HS2.out) rfl)) rfl ⟨by rw [HV.out]; rfl, HB2.out.trans (below_rowAt _ _ _ _ (Nat.le_refl _))⟩
    · exact HQ.out.val.elim
  obtain ⟨L, hL⟩ : ∃ L : Nat, most = L := ⟨most.toNat, by omega⟩
  subst hL
  obtain ⟨P, hP⟩ : ∃ P, runL L (s.size + 1) (s.data.toList.drop 1) 0 1 = P := ⟨_, rfl⟩
  have HP := Lib.hid hP
  have HSL := Lib.hid (scan_limit (s := s.data.toList) hP)
  clear hP hneg
  go_wp2_with fail
  go_loopg [11, 12] (s.size + 1) (fun k v11 v12 wr => ∃ n b : Nat, v11 = .int .i64 n ∧ v12 = .int .i64 b ∧ 1 ≤ b ∧ b ≤ s.size + 1 ∧ n ≤ L ∧ n ≤ b ∧ s.size - b < k ∧ Hid (runL L k (s.data.toList.drop b) n b = P) ∧ Hid (QD w wr r v7 v8 v9 v10))
  case atStart => exact ⟨0, 1, rfl, rfl, by omega, by omega, by omega, by omega, by omega, HP, HQ⟩
  case round =>
    clear HQ HP
    obtain ⟨n, b, rfl, rfl, hb1, hbs, hnL, hnb, hbk, HP, HQ⟩ := hrel
    obtain ⟨k, rfl⟩ : ∃ k, gk = k + 1 := ⟨gk - 1, by omega⟩
    have hp := HP.out
    simp only [runL] at hp
    have hb0 : (0 : Int) ≤ b := by omega
    have hbi : (b : Int) ≤ 100000001 := by omega
    by_cases hgo : n < L ∧ ∃ h : b < s.size, s[b] ≠ 34
    · obtain ⟨h1, h2, h3⟩ := hgo
      have k1 : (n : Int) < L := by omega
      have k2 : (b : Int) < s.size := by omega
      have k3 : ((s[b].toNat : Int) != 34) = true := nby h3 34 rfl
      rw [if_pos ⟨h1, by rw [dropAt s b h2]; simp, by rw [dropAt s b h2]; simpa using h3⟩] at hp
      rcases hst : PM.step (s.data.toList.drop b) with ⟨c, j⟩ | j
      · rw [hst] at hp
        simp only [] at hp
        rw [List.drop_drop] at hp
        have hpos := step_pos hst
        rw [List.length_drop] at hpos
        have hsl : s.data.toList.length = s.size := rfl
        have HST := Lib.hid hst
        obtain ⟨b2, hb2⟩ : ∃ b2, b + j = b2 := ⟨_, rfl⟩
        rw [hb2] at hp
        have HP2 := Lib.hid hp
        have hb3 : b2 ≤ s.size := by omega
        have hb4 : b < b2 := by omega
        clear hp HP hst hpos hsl h3
        go_wp2_with fail
        refine (byteAt_any s b wr hs (by omega)).mono ?_
        rintro e w3 ⟨rfl, hbb⟩
        rw [HST.out]
        simp only [byteV, hb2]
        have HQ2 := Lib.hid (HQ.out.on hbb)
        clear hbb HQ
        go_wp2_with fail
        go_roundg k
        case measure => omega
        case rel => exact ⟨n + 1, b2, by go_num, rfl, by omega, by omega, by omega, by omega, by omega, HP2, HQ2⟩
      · rw [hst] at hp
        simp only [] at hp
        subst hp
        have HST := Lib.hid hst
        have HV : Hid (quotedV (scan (max (L : Int) (-1)) s.data.toList 0) = quotedV r) := Lib.hid (by
          rw [show max (L : Int) (-1) = L by omega, HSL.out, if_neg (fun h => by have : n = L := h.1.2; omega), HRR.out])
        have d1 : ((n : Int) == (L : Int)) = false := by rw [beq_eq_false_iff_ne]; omega
        clear hst h3 HSL HP
        go_wp2_with fail
        refine (byteAt_any s b wr hs (by omega)).mono ?_
        rintro e w3 ⟨rfl, hbb⟩
        rw [HST.out]
        simp only [byteV]
        have HQ2 := Lib.hid (HQ.out.on hbb)
        clear hbb HQ
        have HQ := HQ2
        clear HQ2
        rcases r with ⟨out, pl⟩ | k | k
        · obtain ⟨rfl, ⟨g, m, cap, rfl, hn, hg, hc⟩, rfl, rfl⟩ := HQ.out.val
          obtain ⟨x, hx⟩ : ∃ x : Nat, pl.getLastD 0 = x := ⟨_, rfl⟩
          have HV2 : Hid (quotedV (scan (max (L : Int) (-1)) s.data.toList 0) = .tuple #[.string (bs out), .int .i64 (x + 1 : Nat), spotV 0 0]) := Lib.hid (by rw [HV.out, ← hx]; rfl)
          have hxb : x < s.data.toList.length := by
            obtain ⟨-, hmem, -⟩ := scan_places HRR.out
            rw [← hx]; exact hmem _ (List.mem_of_getElem? (last_get pl m hn))
          have hml : m ≤ 100000000 := by
            have h1 := scan_len HRR.out
            obtain ⟨-, -, h3⟩ := scan_places HRR.out
            have h2 : s.data.toList.length = s.size := rfl
            omega
          have hxl : (x : Int) ≤ 100000001 := by
            have h2 : s.data.toList.length = s.size := rfl
            omega
          rw [hx] at hc ⊢
          have HBX := Lib.hid HQ.out.box
          have HUP := Lib.hid HQ.out.up
          have s0 : w3.cell? ⟨w.heap.size, 0, none⟩ = some (.int .i64 0) := by rw [cell_of_row _ _ 0 _ _ _ HBX.out]; rfl
          have s1 : w3.cell? ⟨w.heap.size, 1, none⟩ = some (.int .i64 0) := by rw [cell_of_row _ _ 1 _ _ _ HBX.out]; rfl
          have s2 : w3.frozen? ⟨w.heap.size, 0, none⟩ = false := frozen_of_row _ _ 0 _ _ HBX.out
          have s3 : w3.frozen? ⟨w.heap.size, 1, none⟩ = false := frozen_of_row _ _ 1 _ _ HBX.out
          have i1 : ¬ g = w.heap.size := by omega
          have i2 : ¬ w.heap.size = g := by omega
          have hm0 : (0 : Int) ≤ m := by omega
          have hm1' : (m : Int) < (m : Int) + 1 := by omega
          have hm2' : (m : Int) + 1 - 1 = m := by omega
          have hm3' : (m : Int) ≤ 100000001 := by omega
          have hw3 : IntKind.i64.wrap ((m : Int) + 1 - 1) = m := (by rw [hm2']; exact IntWalk.i64_in _ (by omega))
          have hw2 : IntKind.i64.wrap ((x : Int) + 1) = x + 1 := IntWalk.i64_in _ (by omega)
          have hw1 : IntKind.i64.wrap (m : Int) = m := IntWalk.i64_in _ (by omega)
          clear HV HQ hn hg hml hx hxb HRR
          go_wp2_with fail
          go_region
          go_wp2_with fail
          exact bodyPost_ret (results_tt_row rfl _ _ w.heap.size _ _ _ rfl rfl rfl (load_spot _ _ _ (spot_set HBX.out _ _) rfl)) rfl ⟨by rw [HV2.out]; rfl, HUP.out.trans (below_spot_set _ _ _ _ _ (Nat.le_refl _))⟩
        · obtain ⟨rfl, rfl, rfl, rfl⟩ := HQ.out.val
          have HBX := Lib.hid HQ.out.box
          have HUP := Lib.hid HQ.out.up
          clear HQ HRR
          go_wp2_with fail
          refine (bad_any k w3).mono ?_
          rintro e w7 ⟨rfl, hb7⟩
          have HS2 := Lib.hid ((hb7.block _ (lt_of_block HBX.out)).trans HBX.out)
          have HB2 := Lib.hid (below_then HUP.out hb7 (Nat.le_refl _))
          simp only [spotV, spotC]
          clear hb7 HBX HUP
          go_wp2_with (refine wpList_store_row rfl TSp (.tmp 6) (.tmp 82) rfl w.heap.size (spotC 6 k) rfl rfl TSp (spotC 0 0) HS2.out (by kernel_rfl) rfl (by simp [spotC, Value.oneCell']) ?_)
          exact bodyPost_ret (results_tt_row rfl _ _ w.heap.size _ _ _ rfl rfl rfl (load_spot _ _ _ (setRow_heap _ _ _ _ _ _ HS2.out) rfl)) rfl ⟨by rw [HV.out]; rfl, HB2.out.trans (below_rowAt _ _ _ _ (Nat.le_refl _))⟩
        · exact HQ.out.val.elim
    · rw [if_neg (fun h => hgo ⟨h.1, by
        have hb2 : b < s.size := by
          rcases Nat.lt_or_ge b s.size with h' | h'
          · exact h'
          · exact absurd (dropEnd s b h') h.2.1
        refine ⟨hb2, fun e => h.2.2 ?_⟩
        rw [dropAt s b hb2, e]; rfl⟩)] at hp
      subst hp
      by_cases hnl : n < L
      · have HV : Hid (quotedV (scan (max (L : Int) (-1)) s.data.toList 0) = quotedV r) := Lib.hid (by
          rw [show max (L : Int) (-1) = L by omega, HSL.out, if_neg (fun h => by have : n = L := h.1.2; omega), HRR.out])
        have d1 : ((n : Int) == (L : Int)) = false := by rw [beq_eq_false_iff_ne]; omega
        have k1 : (n : Int) < L := by omega
        have hd : (decide ((b : Int) < s.size) = false ∧ decide (b < s.size) = false) ∨ (∃ h : b < s.size, (b : Int) < s.size ∧ ((s[b].toNat : Int) != 34) = false) := by
          rcases Nat.lt_or_ge b s.size with h | h
          · refine .inr ⟨h, by omega, ?_⟩
            have : s[b] = 34 := Classical.byContradiction fun e => hgo ⟨hnl, h, e⟩
            rw [this]; rfl
          · exact .inl ⟨by simp; omega, by simp; omega⟩
        clear hgo HSL HP
        rcases hd with ⟨k2, k3⟩ | ⟨h2, k2, k3⟩
        all_goals
          rcases r with ⟨out, pl⟩ | k | k
          · obtain ⟨rfl, ⟨g, m, cap, rfl, hn, hg, hc⟩, rfl, rfl⟩ := HQ.out.val
            obtain ⟨x, hx⟩ : ∃ x : Nat, pl.getLastD 0 = x := ⟨_, rfl⟩
            have HV2 : Hid (quotedV (scan (max (L : Int) (-1)) s.data.toList 0) = .tuple #[.string (bs out), .int .i64 (x + 1 : Nat), spotV 0 0]) := Lib.hid (by rw [HV.out, ← hx]; rfl)
            have hxb : x < s.data.toList.length := by
              obtain ⟨-, hmem, -⟩ := scan_places HRR.out
              rw [← hx]; exact hmem _ (List.mem_of_getElem? (last_get pl m hn))
            have hml : m ≤ 100000000 := by
              have h1 := scan_len HRR.out
              obtain ⟨-, -, h3⟩ := scan_places HRR.out
              have h2 : s.data.toList.length = s.size := rfl
              omega
            have hxl : (x : Int) ≤ 100000001 := by
              have h2 : s.data.toList.length = s.size := rfl
              omega
            rw [hx] at hc ⊢
            have HBX := Lib.hid HQ.out.box
            have HUP := Lib.hid HQ.out.up
            have s0 : wr.cell? ⟨w.heap.size, 0, none⟩ = some (.int .i64 0) := by rw [cell_of_row _ _ 0 _ _ _ HBX.out]; rfl
            have s1 : wr.cell? ⟨w.heap.size, 1, none⟩ = some (.int .i64 0) := by rw [cell_of_row _ _ 1 _ _ _ HBX.out]; rfl
            have s2 : wr.frozen? ⟨w.heap.size, 0, none⟩ = false := frozen_of_row _ _ 0 _ _ HBX.out
            have s3 : wr.frozen? ⟨w.heap.size, 1, none⟩ = false := frozen_of_row _ _ 1 _ _ HBX.out
            have i1 : ¬ g = w.heap.size := by omega
            have i2 : ¬ w.heap.size = g := by omega
            have hm0 : (0 : Int) ≤ m := by omega
            have hm1' : (m : Int) < (m : Int) + 1 := by omega
            have hm2' : (m : Int) + 1 - 1 = m := by omega
            have hm3' : (m : Int) ≤ 100000001 := by omega
            have hw3 : IntKind.i64.wrap ((m : Int) + 1 - 1) = m := (by rw [hm2']; exact IntWalk.i64_in _ (by omega))
            have hw2 : IntKind.i64.wrap ((x : Int) + 1) = x + 1 := IntWalk.i64_in _ (by omega)
            have hw1 : IntKind.i64.wrap (m : Int) = m := IntWalk.i64_in _ (by omega)
            clear HV HQ hn hg hml hx hxb HRR
            go_wp2_with fail
            go_region
            go_wp2_with fail
            exact bodyPost_ret (results_tt_row rfl _ _ w.heap.size _ _ _ rfl rfl rfl (load_spot _ _ _ (spot_set HBX.out _ _) rfl)) rfl ⟨by rw [HV2.out]; rfl, HUP.out.trans (below_spot_set _ _ _ _ _ (Nat.le_refl _))⟩
          · obtain ⟨rfl, rfl, rfl, rfl⟩ := HQ.out.val
            have HBX := Lib.hid HQ.out.box
            have HUP := Lib.hid HQ.out.up
            clear HQ HRR
            go_wp2_with fail
            refine (bad_any k wr).mono ?_
            rintro e w7 ⟨rfl, hb7⟩
            have HS2 := Lib.hid ((hb7.block _ (lt_of_block HBX.out)).trans HBX.out)
            have HB2 := Lib.hid (below_then HUP.out hb7 (Nat.le_refl _))
            simp only [spotV, spotC]
            clear hb7 HBX HUP
            go_wp2_with (refine wpList_store_row rfl TSp (.tmp 6) (.tmp 82) rfl w.heap.size (spotC 6 k) rfl rfl TSp (spotC 0 0) HS2.out (by kernel_rfl) rfl (by simp [spotC, Value.oneCell']) ?_)
            exact bodyPost_ret (results_tt_row rfl _ _ w.heap.size _ _ _ rfl rfl rfl (load_spot _ _ _ (setRow_heap _ _ _ _ _ _ HS2.out) rfl)) rfl ⟨by rw [HV.out]; rfl, HB2.out.trans (below_rowAt _ _ _ _ (Nat.le_refl _))⟩
          · exact HQ.out.val.elim
      · have hLn : L = n := by omega
        subst hLn
        have d1 : ((L : Int) == (L : Int)) = true := by simp
        clear hgo hnl
        by_cases hlong : s.data.toList.head? = some 34 ∧ (s.data.toList.drop b).head? ≠ some 34
        · have hz : 0 < s.size := by
            have h := hlong.1
            have h2 : s.data.toList.length = s.size := rfl
            cases h3 : s.data.toList with
            | nil => rw [h3] at h; simp at h
            | cons x t => rw [h3] at h2; simp at h2; omega
          have h0 : s[0] = 34 := by
            have h := hlong.1
            rw [show s.data.toList = s.data.toList.drop 0 from rfl, dropAt s 0 hz] at h
            simpa using h
          have hz2 : (0 : Int) < s.size := by omega
          have k0 : ((s[0].toNat : Int) == 34) = true := by rw [h0]; rfl
          have HV : Hid (quotedV (scan (max (L : Int) (-1)) s.data.toList 0) = quotedV (.long b)) := Lib.hid (by
            rw [show max (L : Int) (-1) = L by omega, HSL.out, if_pos ⟨⟨hlong.1, rfl⟩, hlong.2⟩])
          have hd : (decide ((s.size : Int) ≤ b) = true ∧ decide (s.size ≤ b) = true) ∨ (∃ h : b < s.size, (b : Int) < s.size ∧ decide ((s.size : Int) ≤ b) = false ∧ decide (s.size ≤ b) = false ∧ ((s[b].toNat : Int) != 34) = true) := by
            rcases Nat.lt_or_ge b s.size with h | h
            · have hne : s[b] ≠ 34 := fun e => hlong.2 (by rw [dropAt s b h, e]; rfl)
              exact .inr ⟨h, by omega, by simp; omega, by simp; omega, nby hne 34 rfl⟩
            · exact .inl ⟨by simp; omega, by simp; omega⟩
          have HBX := Lib.hid HQ.out.box
          have HUP := Lib.hid HQ.out.up
          clear hlong HSL HP HQ h0
          rcases hd with ⟨k2, k3⟩ | ⟨h2, k2, k3, k4, k5⟩
          all_goals
            go_wp2_with (refine wpList_store_row rfl TSp (.tmp 6) (.tmp 78) rfl w.heap.size (spotC 3 b) rfl rfl TSp (spotC 0 0) HBX.out (by kernel_rfl) rfl (by simp [spotC, Value.oneCell']) ?_)
            exact bodyPost_ret (results_tt_row rfl _ _ w.heap.size _ _ _ rfl rfl rfl (load_spot _ _ _ (setRow_heap _ _ _ _ _ _ HBX.out) rfl)) rfl ⟨by rw [HV.out]; rfl, HUP.out.trans (below_rowAt _ _ _ _ (Nat.le_refl _))⟩
        · have HV : Hid (quotedV (scan (max (L : Int) (-1)) s.data.toList 0) = quotedV r) := Lib.hid (by
            rw [show max (L : Int) (-1) = L by omega, HSL.out, if_neg (fun h => hlong ⟨h.1.1, h.2⟩), HRR.out])
          have hd : (decide ((0 : Int) < s.size) = false ∧ decide (0 < s.size) = false) ∨ (∃ h : 0 < s.size, (0 : Int) < s.size ∧ ((s[0].toNat : Int) == 34) = false) ∨ (∃ (h : 0 < s.size) (h2 : b < s.size), (0 : Int) < s.size ∧ ((s[0].toNat : Int) == 34) = true ∧ (b : Int) < s.size ∧ decide ((s.size : Int) ≤ b) = false ∧ decide (s.size ≤ b) = false ∧ ((s[b].toNat : Int) != 34) = false) := by
            rcases Nat.eq_zero_or_pos s.size with h | h
            · exact .inl ⟨decide_eq_false (by omega), decide_eq_false (by omega)⟩
            · by_cases h0 : s[0] = 34
              · have hh : s.data.toList.head? = some 34 := by
                  rw [show s.data.toList = s.data.toList.drop 0 from rfl, dropAt s 0 h, h0]; rfl
                have h34 : (s.data.toList.drop b).head? = some 34 := Classical.byContradiction fun e => hlong ⟨hh, e⟩
                have hb2 : b < s.size := by
                  rcases Nat.lt_or_ge b s.size with h' | h'
                  · exact h'
                  · rw [dropEnd s b h'] at h34; simp at h34
                rw [dropAt s b hb2] at h34
                have hbe : s[b] = 34 := by simpa using h34
                exact .inr (.inr ⟨h, hb2, by omega, by rw [h0]; rfl, by omega, by simp; omega, by simp; omega, by rw [hbe]; rfl⟩)
              · exact .inr (.inl ⟨h, by omega, by rw [beq_eq_false_iff_ne]; exact fun e => h0 (u8_eq (by have : (34 : UInt8).toNat = 34 := rfl; omega))⟩)
          clear hlong HSL HP
          rcases hd with ⟨k2, k3⟩ | ⟨h2, k2, k3⟩ | ⟨h2, h3, k2, k3, k4, k5, k6, k7⟩
          all_goals
            rcases r with ⟨out, pl⟩ | k | k
            · obtain ⟨rfl, ⟨g, m, cap, rfl, hn, hg, hc⟩, rfl, rfl⟩ := HQ.out.val
              obtain ⟨x, hx⟩ : ∃ x : Nat, pl.getLastD 0 = x := ⟨_, rfl⟩
              have HV2 : Hid (quotedV (scan (max (L : Int) (-1)) s.data.toList 0) = .tuple #[.string (bs out), .int .i64 (x + 1 : Nat), spotV 0 0]) := Lib.hid (by rw [HV.out, ← hx]; rfl)
              have hxb : x < s.data.toList.length := by
                obtain ⟨-, hmem, -⟩ := scan_places HRR.out
                rw [← hx]; exact hmem _ (List.mem_of_getElem? (last_get pl m hn))
              have hml : m ≤ 100000000 := by
                have h1 := scan_len HRR.out
                obtain ⟨-, -, h3⟩ := scan_places HRR.out
                have h2 : s.data.toList.length = s.size := rfl
                omega
              have hxl : (x : Int) ≤ 100000001 := by
                have h2 : s.data.toList.length = s.size := rfl
                omega
              rw [hx] at hc ⊢
              have HBX := Lib.hid HQ.out.box
              have HUP := Lib.hid HQ.out.up
              have s0 : wr.cell? ⟨w.heap.size, 0, none⟩ = some (.int .i64 0) := by rw [cell_of_row _ _ 0 _ _ _ HBX.out]; rfl
              have s1 : wr.cell? ⟨w.heap.size, 1, none⟩ = some (.int .i64 0) := by rw [cell_of_row _ _ 1 _ _ _ HBX.out]; rfl
              have s2 : wr.frozen? ⟨w.heap.size, 0, none⟩ = false := frozen_of_row _ _ 0 _ _ HBX.out
              have s3 : wr.frozen? ⟨w.heap.size, 1, none⟩ = false := frozen_of_row _ _ 1 _ _ HBX.out
              have i1 : ¬ g = w.heap.size := by omega
              have i2 : ¬ w.heap.size = g := by omega
              have hm0 : (0 : Int) ≤ m := by omega
              have hm1' : (m : Int) < (m : Int) + 1 := by omega
              have hm2' : (m : Int) + 1 - 1 = m := by omega
              have hm3' : (m : Int) ≤ 100000001 := by omega
              have hw3 : IntKind.i64.wrap ((m : Int) + 1 - 1) = m := (by rw [hm2']; exact IntWalk.i64_in _ (by omega))
              have hw2 : IntKind.i64.wrap ((x : Int) + 1) = x + 1 := IntWalk.i64_in _ (by omega)
              have hw1 : IntKind.i64.wrap (m : Int) = m := IntWalk.i64_in _ (by omega)
              clear HV HQ hn hg hml hx hxb HRR
              go_wp2_with fail
              go_region
              go_wp2_with fail
              exact bodyPost_ret (results_tt_row rfl _ _ w.heap.size _ _ _ rfl rfl rfl (load_spot _ _ _ (spot_set HBX.out _ _) rfl)) rfl ⟨by rw [HV2.out]; rfl, HUP.out.trans (below_spot_set _ _ _ _ _ (Nat.le_refl _))⟩
            · obtain ⟨rfl, rfl, rfl, rfl⟩ := HQ.out.val
              have HBX := Lib.hid HQ.out.box
              have HUP := Lib.hid HQ.out.up
              clear HQ HRR
              go_wp2_with fail
              refine (bad_any k wr).mono ?_
              rintro e w7 ⟨rfl, hb7⟩
              have HS2 := Lib.hid ((hb7.block _ (lt_of_block HBX.out)).trans HBX.out)
              have HB2 := Lib.hid (below_then HUP.out hb7 (Nat.le_refl _))
              simp only [spotV, spotC]
              clear hb7 HBX HUP
              go_wp2_with (refine wpList_store_row rfl TSp (.tmp 6) (.tmp 82) rfl w.heap.size (spotC 6 k) rfl rfl TSp (spotC 0 0) HS2.out (by kernel_rfl) rfl (by simp [spotC, Value.oneCell']) ?_)
              exact bodyPost_ret (results_tt_row rfl _ _ w.heap.size _ _ _ rfl rfl rfl (load_spot _ _ _ (setRow_heap _ _ _ _ _ _ HS2.out) rfl)) rfl ⟨by rw [HV.out]; rfl, HB2.out.trans (below_rowAt _ _ _ _ (Nat.le_refl _))⟩
            · exact HQ.out.val.elim
end Go.Proofs.Ytlfhjmdbkifciaa
