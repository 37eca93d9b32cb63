/- NfaRuns: byte by byte it is known whether the pattern fits so far, and whether it still can. -/
import Derived.Test.YtpiflikblpfgoaaDoorNfaRefPart
import Derived.Test.YtpiflikblpfgoaaDoorNfaMatches
namespace Go.Proofs.YtpiflikblpfgoaaDoor
open Go.RowKit PM

theorem ext_take' (s : ByteArray) (i : Nat) : (s.extract 0 i).data.toList = s.data.toList.take i := by simp [ByteArray.data_extract]
theorem ext_size' (s : ByteArray) (i j : Nat) : (s.extract i j).size ≤ s.size := by simp [ByteArray.size_extract]; omega

set_option maxRecDepth 100000 in
set_option maxHeartbeats 8000000 in
/-- the document's Dead -/
theorem rdead_any (s : ByteArray) (hs : s.size ≤ 1000000) {kind : Int} {l : List UInt8} {t : T} (ht : tree kind l = .ok t) {A : Nat → Bool} (hA : Closed (netOf t).1 (netOf t).2 A) (p : Nat → Prop) (K : Value) (w : World) (hK : IsT w p K t) :
    Calls Tryd.prog 20 #[nodeV t K, .string s] w fun e w' => e = .returned (.bool (deadB (netOf t).1 (netOf t).2 A s.data.toList)) ∧ Below w.heap.size w w' := by
  have hC : ∀ W b c g, Below w.heap.size w W → BF W b (s.size + 1) g → Calls Tryd.prog 32 #[nodeV t K, .string s, .slice (some ⟨b, 0, none⟩) (s.size + 1) c] W (PartIs s t g W) := fun W b c g hW hg => part_any s hs 100 (by omega) t (tree_ok ht).1 (tree_full ht) _ _ W b c g (hK.on hW) hg
  have HDE := Lib.hid (part_dead (l := s.data.toList) ht hA (f := fun j => decide (j = 0)) (fun _ => rfl))
  obtain ⟨Ak, ca, rfl⟩ := hK.slice
  simp only [nodeV, nodeC] at hC
  simp only [nodeV, nodeC]
  generalize word t.set 0 = x0 at *
  generalize word t.set 1 = x1 at *
  generalize word t.set 2 = x2 at *
  generalize word t.set 3 = x3 at *
  obtain ⟨op, hop⟩ : ∃ op, t.op = op := ⟨_, rfl⟩
  obtain ⟨m, hm⟩ : ∃ m, t.kids.length = m := ⟨_, rfl⟩
  rw [hop, hm] at hC ⊢
  clear hop hm
  have hST : ∀ W, Calls Tryd.prog 31 #[.string s] W fun e w' => e = .returned (.slice (some ⟨W.heap.size, 0, none⟩) (s.size + 1) (s.size + 1)) ∧ BF w' W.heap.size (s.size + 1) (fun j => decide (j = 0)) ∧ Below W.heap.size W w' := fun W => start_any s W hs
  obtain ⟨n, hn⟩ : ∃ n, n = s.size + 1 := ⟨_, rfl⟩
  unfold PartIs at hC
  rw [← hn] at hC hST
  have HC := Lib.hid hC; have HST := Lib.hid hST
  have HS := Lib.hid (EmS.start w #[.int .i64 op, .int .u64 x0, .int .u64 x1, .int .u64 x2, .int .u64 x3, .slice Ak m ca])
  clear hC hST hK hn ht hA
  generalize deadB (netOf t).1 (netOf t).2 A s.data.toList = dd at *
  go_enter Tryd.func20, Tryd.ntmps20
  go_upto_region 1 with (fail)
  change Code.wp _ _ _ _ _
  generalize w.alloc (.cells #[.int .i64 op, .int .u64 x0, .int .u64 x1, .int .u64 x2, .int .u64 x3, .slice Ak m ca] TN) = W0 at *
  obtain ⟨a0, a1, a2, a3, a4, a5⟩ := HS.out.six
  have HUD : Hid (Below w.heap.size w W0.drew) := Lib.hid (below_then HS.out.up ⟨rfl, rfl, rfl, Nat.le_refl _, fun _ _ => rfl⟩ (Nat.le_refl _))
  go_region_held3 (fun w' => w'.cell? ⟨w.heap.size, 0, none⟩ = some (.int .i64 op) ∧ w'.cell? ⟨w.heap.size, 1, none⟩ = some (.int .u64 x0) ∧ w'.cell? ⟨w.heap.size, 2, none⟩ = some (.int .u64 x1) ∧ w'.cell? ⟨w.heap.size, 3, none⟩ = some (.int .u64 x2) ∧ w'.cell? ⟨w.heap.size, 4, none⟩ = some (.int .u64 x3) ∧ w'.cell? ⟨w.heap.size, 5, none⟩ = some (.slice Ak m ca))
    (first | exact ⟨a0, a1, a2, a3, a4, a5⟩ | exact ⟨cell_below a0 hb2, cell_below a1 hb2, cell_below a2 hb2, cell_below a3 hb2, cell_below a4 hb2, cell_below a5 hb2⟩ | exact ⟨cell_below a0 hb3, cell_below a1 hb3, cell_below a2 hb3, cell_below a3 hb3, cell_below a4 hb3, cell_below a5 hb3⟩)
    (first
    | (go_at_call 31; refine (HST.out W0.drew).mono ?_; rintro e w2 ⟨rfl, hg, hb⟩; have hb2 : Below W0.heap.size W0 w2 := ⟨hb.os, hb.tape, hb.output, hb.size, fun k hk => hb.block k hk⟩; have HU2 := Lib.hid (below_then HUD.out hb (Nat.le_refl _)); have HG2 := Lib.hid hg; clear hb hg)
    | (go_at_call 32; refine (HC.out w2 _ _ _ HU2.out HG2.out).mono ?_; rintro e w3 ⟨rk, rfl, hrk, hb⟩; have hb3 : Below W0.heap.size W0 w3 := below_then hb2 hb (Nat.le_refl _); have HU3 := Lib.hid (below_then HU2.out hb (Nat.le_refl _)); have HR3 := Lib.hid hrk; clear hb hrk))
  all_goals
    have HV := Lib.hid (show (!rk) = dd from by
      have h1 := HR3.out; have h2 := HDE.out
      cases rk <;> cases dd
      · exact absurd (h1.2 (h2.1 rfl)) (by decide)
      · rfl
      · rfl
      · exact absurd (h2.2 (h1.1 rfl)) (by decide))
    go_wp2_with fail
    go_ret
    exact ⟨by rw [← HV.out]; rfl, HU3.out⟩

set_option maxRecDepth 100000 in
set_option maxHeartbeats 8000000 in
/-- Deep: it tells something, and writes nothing -/
theorem deep_any (g : Nat) (kind : Int) (a : ByteArray) (w : World) (hg : w.heap[g]? = some (.cells #[.int .i64 kind, .string a] TPat (0, 0))) (ha : a.size ≤ 9223372036854775807) :
    Calls Tryd.prog 16 #[.slice (some ⟨g, 0, none⟩) 1 1] w fun e w' => ∃ r : Bool, e = .returned (.bool r) ∧ Below w.heap.size w w' := by
  have HG := Lib.hid hg
  clear hg
  go_enter Tryd.func16, Tryd.ntmps16
  go_wp2_with fail
  change Code.wp _ _ _ _ _
  go_loopg [9, 4, 5, 6] (2 : Nat) (fun k v9 v4 v5 v6 wr => ∃ i : Nat, v9 = .int .i64 i ∧ i ≤ 1 ∧ 1 - i < k ∧ Hid (Below w.heap.size w wr))
  case atStart => exact ⟨0, rfl, by omega, by omega, Lib.hid (Below.refl _ _)⟩
  case round =>
    obtain ⟨i, rfl, hi, hik, HB⟩ := hrel
    rcases Nat.lt_or_ge i 1 with hlt | hge
    · obtain rfl : i = 0 := by omega
      have hgr := (HB.out.block g (lt_of_block HG.out)).trans HG.out
      have c0 : wr.cell? ⟨g, 0, none⟩ = some (.int .i64 kind) := by rw [cell_of_row _ _ 0 _ _ _ hgr]; rfl
      have c1 : wr.cell? ⟨g, 1, none⟩ = some (.string a) := by rw [cell_of_row _ _ 1 _ _ _ hgr]; rfl
      have hn0 := heap_alloc_new wr (.cells #[.int .i64 kind, .string a] TPat)
      have hb0 := below_new wr (.cells #[.int .i64 kind, .string a] TPat)
      have HN := Lib.hid hn0; have HB0 := Lib.hid (below_then HB.out hb0 (Nat.le_refl _))
      clear hn0 hb0 hgr
      generalize gk = g0 at *
      go_wp2_with fail
      change Code.wp _ _ _ _ _
      obtain ⟨B, hB⟩ : ∃ B, wr.heap.size = B := ⟨_, rfl⟩
      rw [hB] at HN ⊢
      generalize wr.alloc (.cells #[.int .i64 kind, .string a] TPat) = W1 at *
      have e1 : W1.cell? ⟨B, 1, none⟩ = some (.string a) := by rw [cell_of_row _ _ 1 _ _ _ HN.out]; rfl
      clear hB c0 c1
      go_loopg [5, 6] (a.size + 1) (fun k v5 v6 wq => ∃ n j : Nat, v5 = .int .i64 n ∧ v6 = .int .i64 j ∧ n ≤ 7 ∧ j ≤ a.size ∧ a.size - j < k ∧ wq = W1)
      case atStart => exact ⟨0, 0, rfl, rfl, by omega, by omega, by omega, rfl⟩
      case round =>
        obtain ⟨n, j, rfl, rfl, hn, hj, hjk, rfl⟩ := hrel
        by_cases hja : j < a.size
        · have h1 : (j : Int) < a.size := by omega
          have h2 : (0 : Int) ≤ j := by omega
          by_cases hn6 : n ≤ 6
          · have h3 : decide (n ≤ 6) = true := decide_eq_true hn6
            have h4 : (n : Int) ≤ 6 := by omega
            cases hc : ((a[j].toNat : Int) == 43) with
            | true =>
              go_wp2_with fail
              go_roundg (gk - 1)
              case measure => omega
              case rel => exact ⟨n + 1, j + 1, by go_num, by go_num, by omega, by omega, by omega, rfl⟩
            | false =>
              go_wp2_with fail
              go_roundg (gk - 1)
              case measure => omega
              case rel => exact ⟨n, j + 1, rfl, by go_num, by omega, by omega, by omega, rfl⟩
          · have h3 : decide (n ≤ 6) = false := decide_eq_false hn6
            have h4 : (6 : Int) < n := by omega
            go_wp2_with fail
            go_ret
            exact ⟨_, rfl, HB0.out⟩
        · have h1 : decide (j < a.size) = false := decide_eq_false hja
          by_cases hn6 : n ≤ 6
          · have h4 : (n : Int) ≤ 6 := by omega
            go_wp2_with fail
            go_roundg (g0 - 1)
            case measure => omega
            case rel => exact ⟨1, by go_num, by omega, by omega, HB0⟩
          · have h4 : (6 : Int) < n := by omega
            go_wp2_with fail
            go_ret
            exact ⟨_, rfl, HB0.out⟩
    · obtain rfl : i = 1 := by omega
      go_wp2_with fail
      go_ret
      exact ⟨_, rfl, HB.out⟩

set_option maxRecDepth 100000 in
set_option maxHeartbeats 8000000 in
theorem nfaRuns_walk (kind : Int) (a s : ByteArray) (w : World) (ha : a.size ≤ 9223372036854775807) (_hs : s.size ≤ 9223372036854775807) (hT : Tab w) :
    Calls Tryd.prog 4 #[.agg #[.int .i64 kind, .string a], .string s] w fun e w' => e = .returned (.bool true) ∧ Below w.heap.size w w' := by
  have HT := Lib.hid hT
  clear hT
  go_enter Tryd.func4, Tryd.ntmps4
  go_wp2_with fail
  generalize hW0 : w.alloc (.cells #[.int .i64 kind, .string a] 23) = W0 at *
  have hb0 : Below w.heap.size w W0 := by rw [← hW0]; exact below_new _ _
  have hp0 : W0.heap[w.heap.size]? = some (.cells #[.int .i64 kind, .string a] 23 (0, 0)) := by rw [← hW0]; exact heap_alloc_new _ _
  clear hW0
  refine (works_any W0 (HT.out.on hb0)).mono ?_
  rintro e w1 ⟨rfl, hb1⟩
  have hp1 := (hb1.block _ (lt_of_block hp0)).trans hp0
  have y0 : w1.cell? ⟨w.heap.size, 0, none⟩ = some (.int .i64 kind) := by rw [cell_of_row _ _ 0 _ _ _ hp1]; rfl
  have y1 : w1.cell? ⟨w.heap.size, 1, none⟩ = some (.string a) := by rw [cell_of_row _ _ 1 _ _ _ hp1]; rfl
  have HB1 := Lib.hid (below_then hb0 hb1 (Nat.le_refl _)); have HP1 := Lib.hid hp1
  have HT1 := Lib.hid (HT.out.on HB1.out)
  clear hb0 hp0 hb1 hp1
  go_wp2_with fail
  refine (of_any kind a w1 ha HT1.out).mono ?_
  rintro e w2 (⟨t, b, A, ht, rfl, ho, hc⟩ | ⟨hno, rfl, hb2⟩)
  · have HN2 := Lib.hid (ho.is hc ht)
    have HB2 := Lib.hid (below_then HB1.out ho.up (Nat.le_refl _))
    have HT2 := Lib.hid (HT.out.on HB2.out)
    have HP2 := Lib.hid ((ho.up.block _ (lt_of_block HP1.out)).trans HP1.out)
    have HTE := Lib.hid ht
    clear ho hc ht y0 y1 HP1
    have y0 : w2.cell? ⟨w.heap.size, 0, none⟩ = some (.int .i64 kind) := by rw [cell_of_row _ _ 0 _ _ _ HP2.out]; rfl
    have y1 : w2.cell? ⟨w.heap.size, 1, none⟩ = some (.string a) := by rw [cell_of_row _ _ 1 _ _ _ HP2.out]; rfl
    go_wp2_with fail
    refine (rtree_or kind a w2 ha).mono ?_
    rintro e w3 (⟨t2, A2, c2, ht2, rfl, hK, hb⟩ | ⟨x, k, hx, hno, rfl, hb⟩)
    · obtain rfl : t = t2 := by have := HTE.out.symm.trans ht2; injection this
      have HN3 := Lib.hid (HN2.out.on hb); have HB3 := Lib.hid (below_then HB2.out hb (Nat.le_refl _))
      obtain ⟨hta, hbn⟩ := TrAt.made hK
      have hb34 := below_then hb hbn (Nat.le_refl _)
      clear ht2 hb y0 y1
      go_upto_region 5 with (fail)
      generalize (w3.alloc (.cells #[.int .i64 t.op, .int .u64 (word t.set 0), .int .u64 (word t.set 1), .int .u64 (word t.set 2), .int .u64 (word t.set 3), .slice A2 t.kids.length c2] TN)).alloc (.cells #[.int .i64 0, .int .i64 0] TSp) = w4 at *
      have HN4 := Lib.hid (HN3.out.on hbn); have HB4 := Lib.hid (below_then HB3.out hbn (Nat.le_refl _)); have HTA := Lib.hid hta
      obtain ⟨e0, e1⟩ := hta.err
      obtain ⟨x0, x1, x2, x3, x4, x5⟩ := hta.cells
      have hbl4 := hb34
      have HIT := Lib.hid hta.tree
      clear hK hbn hta
      obtain ⟨B, hB⟩ : ∃ B, w3.heap.size = B := ⟨_, rfl⟩
      have HTA2 := HTA.out
      rw [hB] at HTA2
      have HTB := Lib.hid HTA2
      rw [hB] at e0 e1 x0 x1 x2 x3 x4 x5 ⊢
      clear hB HTA2 HTA x0 x1 x2 x3 x4 x5
      by_cases hl : 60 < s.size
      · have h1 : decide (60 < s.size) = true := decide_eq_true hl
        have h2 : (60 : Int) < s.size := by omega
        go_wp2_with fail
        go_ret
        exact ⟨rfl, HB4.out⟩
      have h1 : decide (60 < s.size) = false := decide_eq_false hl
      have h2 : (s.size : Int) ≤ 60 := by omega
      have HP4 : Hid (w4.heap[w.heap.size]? = some (.cells #[.int .i64 kind, .string a] 23 (0, 0))) := Lib.hid ((hbl4.block _ (lt_of_block HP2.out)).trans HP2.out)
      have y0 : w4.cell? ⟨w.heap.size, 0, none⟩ = some (.int .i64 kind) := by rw [cell_of_row _ _ 0 _ _ _ HP4.out]; rfl
      have y1 : w4.cell? ⟨w.heap.size, 1, none⟩ = some (.string a) := by rw [cell_of_row _ _ 1 _ _ _ HP4.out]; rfl
      have hn0 := heap_alloc_new w4 (.cells #[.int .i64 kind, .string a] TPat)
      have hb0 := below_new w4 (.cells #[.int .i64 kind, .string a] TPat)
      have HNB := Lib.hid (And.intro hn0 hb0)
      clear hn0 hb0
      go_wp2_with fail
      refine (deep_any w4.heap.size kind a _ HNB.out.1 ha).mono ?_
      rintro e w5 ⟨rd, rfl, hb⟩
      have HB45 := Lib.hid (below_then HNB.out.2 hb (Nat.le_refl _))
      have HB5 := Lib.hid (below_then HB4.out HB45.out (Nat.le_refl _)); have HN5 := Lib.hid (HN4.out.on HB45.out); have HTB5 := Lib.hid (HTB.out.on HB45.out)
      clear hb y0 y1 HNB e0 e1
      obtain ⟨e0, e1⟩ := HTB5.out.err
      cases rd with
      | true =>
        go_wp2_with fail
        go_ret
        exact ⟨rfl, HB5.out⟩
      | false =>
        go_wp2_with fail
        refine (begin_any b w5).mono ?_
        rintro e w6 ⟨rfl, hr6, hb6⟩
        have HR6 : Hid (RunAt w6 w5.heap.size b t []) := Lib.hid hr6
        have HN6 := Lib.hid (HN5.out.on hb6); have HB6 := Lib.hid (below_then HB5.out hb6 (Nat.le_refl _)); have HTB6 := Lib.hid (HTB5.out.on hb6)
        have HRB := Lib.hid (show w5.heap.size ≠ b by have := HN5.out.net.lt; omega)
        have HRG := Lib.hid (show w.heap.size ≤ w5.heap.size from HB5.out.size)
        have HRT := Lib.hid (show B + 1 < w5.heap.size from lt_of_block HTB5.out.spot)
        have HB56 := Lib.hid hb6
        clear hr6 hb6 e0 e1
        have HK5 := Lib.hid HTB5.out
        obtain ⟨r, hr⟩ : ∃ r, w5.heap.size = r := ⟨_, rfl⟩
        have HIS := Lib.hid (show IsT w5 (fun _ => True) (.slice A2 t.kids.length c2) t from HTB5.out.tree)
        have HW5 := Lib.hid hr
        rw [hr] at HR6 HRB HRG HRT ⊢
        clear hr
        go_wp2_with fail
        change Code.wp _ _ _ _ _
        go_loopg [10] (s.size + 2) (fun k v wr => ∃ i : Nat, v = .int .i64 i ∧ i ≤ s.size + 1 ∧ s.size + 2 - i ≤ k ∧ Hid (RunAt wr r b t (s.data.toList.take i) ∧ Below w5.heap.size w5 wr))
        case atStart => exact ⟨0, rfl, by omega, by omega, Lib.hid ⟨HR6.out, HB56.out⟩⟩
        case round =>
          obtain ⟨i, rfl, hi, hik, HS⟩ := hrel
          by_cases hlt : i ≤ s.size
          · have h3 : (i : Int) ≤ s.size := by omega
            have h4 : (0 : Int) ≤ i := by omega
            have HUW := Lib.hid (below_then HB5.out HS.out.2 (Nat.le_refl _))
            have HNr := Lib.hid (HN5.out.on HS.out.2); have HTr := Lib.hid (HTB5.out.on HS.out.2)
            have HITr := Lib.hid (HIS.out.on HS.out.2)
            have HTab := Lib.hid (HT.out.on HUW.out)
            have h1 : ∀ W, Below wr.heap.size wr W → Calls Tryd.prog 18 #[.pointer (some ⟨r, 0, none⟩)] W fun e w' => e = .returned (.bool (fitsB t (s.data.toList.take i))) ∧ Below W.heap.size W w' := fun W hW => runDone_any r b t A _ W (RB.on HS.out.1 hW) (HNr.out.on hW)
            have h2 : ∀ W, Below wr.heap.size wr W → Calls Tryd.prog 15 #[nodeV t (.slice A2 t.kids.length c2), .string (s.extract 0 i)] W fun e w' => e = .returned (.bool (fitsB t (s.data.toList.take i))) ∧ Below W.heap.size W w' := fun W hW => by
              have h := fits_any (s.extract 0 i) (by have := ext_size' s 0 i; omega) HTE.out _ _ W (HITr.out.on hW)
              rw [ext_take'] at h
              exact h
            have h5 : ∀ W, Below wr.heap.size wr W → Calls Tryd.prog 19 #[.pointer (some ⟨r, 0, none⟩)] W fun e w' => e = .returned (.bool (deadB (netOf t).1 (netOf t).2 A (s.data.toList.take i))) ∧ Below W.heap.size W w' := fun W hW => runDead_any r b t A _ W (RB.on HS.out.1 hW) (HNr.out.on hW)
            have h6 : ∀ W, Below wr.heap.size wr W → Calls Tryd.prog 20 #[nodeV t (.slice A2 t.kids.length c2), .string (s.extract 0 i)] W fun e w' => e = .returned (.bool (deadB (netOf t).1 (netOf t).2 A (s.data.toList.take i))) ∧ Below W.heap.size W w' := fun W hW => by
              have h := rdead_any (s.extract 0 i) (by have := ext_size' s 0 i; omega) HTE.out HN5.out.closed _ _ W (HITr.out.on hW)
              rw [ext_take'] at h
              exact h
            obtain ⟨x0, x1, x2, x3, x4, x5⟩ := HTr.out.cells
            have x0' := After.cell x0; have x1' := After.cell x1; have x2' := After.cell x2; have x3' := After.cell x3; have x4' := After.cell x4; have x5' := After.cell x5
            simp only [nodeV, nodeC] at h2 h6
            have H1 := Lib.hid (Calls.after h1); have H2 := Lib.hid (Calls.after h2); have H3 := Lib.hid (Calls.after h5); have H4 := Lib.hid (Calls.after h6)
            have hs1 : (fitsB t (s.data.toList.take i) != fitsB t (s.data.toList.take i)) = false := by simp
            have hs2 : (deadB (netOf t).1 (netOf t).2 A (s.data.toList.take i) != deadB (netOf t).1 (netOf t).2 A (s.data.toList.take i)) = false := by simp
            clear h1 h2 h5 h6 x0 x1 x2 x3 x4 x5
            generalize fitsB t (s.data.toList.take i) = fx at *
            generalize deadB (netOf t).1 (netOf t).2 A (s.data.toList.take i) = dx at *
            go_wp2_with fail
            refine wp_region_after (by kernel_rfl) (by kernel_rfl) ?_
            repeat (go_big_quiet_step (first | (go_at_call 18; exact H1.out _) | (go_at_call 15; exact H2.out _) | (go_at_call 19; exact H3.out _) | (go_at_call 20; exact H4.out _)))
            refine wpQuiet_nil ?_
            intro _ hw'
            obtain ⟨pw, rfl⟩ := hw'
            have HRp := Lib.hid (RB.on HS.out.1 pw.up); have HNp := Lib.hid (HNr.out.on pw.up)
            have HUp := Lib.hid (below_then HS.out.2 pw.up (Nat.le_refl _)); have HTp := Lib.hid (HTab.out.on pw.up)
            clear x0' x1' x2' x3' x4' x5' H1 H2 H3 H4 hs1 hs2
            rcases Nat.lt_or_ge i s.size with hls | hge
            · have h5 : (i : Int) < s.size := by omega
              have HSN := Lib.hid (take_snoc s i hls)
              go_wp2_with fail
              refine (runStep_any r b t A (s.data.toList.take i) s[i] pw.W HRp.out HNp.out HTp.out).mono ?_
              rintro e wq ⟨rfl, hr, hg⟩
              have HR7 := Lib.hid hr
              have HU7 := Lib.hid (below_set HUp.out hg (Nat.le_refl _) (by rw [HW5.out]; exact Nat.le_refl _))
              clear hr hg
              rw [HSN.out] at HR7
              go_wp2_with fail
              go_roundg (gk - 1)
              case measure => omega
              case rel => exact ⟨i + 1, by go_num, by omega, by omega, Lib.hid ⟨HR7.out, HU7.out⟩⟩
            · obtain rfl : i = s.size := by omega
              have HFULL := Lib.hid (show s.data.toList.take (s.size + 1) = s.data.toList.take s.size by rw [List.take_of_length_le (show s.data.toList.length ≤ s.size + 1 from Nat.le_succ _), List.take_of_length_le (show s.data.toList.length ≤ s.size from Nat.le_refl _)])
              go_wp2_with fail
              go_roundg (gk - 1)
              case measure => omega
              case rel => exact ⟨s.size + 1, by go_num, by omega, by omega, Lib.hid ⟨by rw [HFULL.out]; exact HRp.out, HUp.out⟩⟩
          · obtain rfl : i = s.size + 1 := by omega
            have HUW := Lib.hid (below_then HB5.out HS.out.2 (Nat.le_refl _))
            clear HS
            go_wp2_with fail
            go_ret
            exact ⟨rfl, HUW.out⟩
    · exact absurd HTE.out (hno t)
  · have HB2 := Lib.hid (below_then HB1.out hb2 (Nat.le_refl _))
    have HP2 := Lib.hid ((hb2.block _ (lt_of_block HP1.out)).trans HP1.out)
    have HNO := Lib.hid hno
    clear hno y0 y1 HP1 hb2
    have y0 : w2.cell? ⟨w.heap.size, 0, none⟩ = some (.int .i64 kind) := by rw [cell_of_row _ _ 0 _ _ _ HP2.out]; rfl
    have y1 : w2.cell? ⟨w.heap.size, 1, none⟩ = some (.string a) := by rw [cell_of_row _ _ 1 _ _ _ HP2.out]; rfl
    go_wp2_with fail
    refine (rtree_or kind a w2 ha).mono ?_
    rintro e w3 (⟨t2, A2, c2, ht2, rfl, hK, hb⟩ | ⟨x, k, hx, hno, rfl, hb⟩)
    · exact absurd ht2 (HNO.out t2)
    · have HB3 := Lib.hid (below_then HB2.out hb (Nat.le_refl _))
      clear hno hb y0 y1
      rcases hx with rfl | rfl | rfl
      all_goals
        go_wp2_with fail
        go_ret
        exact ⟨rfl, below_then HB3.out (two_below _ _ _) (Nat.le_refl _)⟩
end Go.Proofs.YtpiflikblpfgoaaDoor
