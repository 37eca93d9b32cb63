/- MatchPieces: it makes no difference in which pieces a text comes. -/
import Derived.Test.YtfhggnbnbopkkaaDoorMatAll
namespace Go.Proofs.YtfhggnbnbopkkaaDoor
open Go.RowKit PM

set_option maxRecDepth 100000
theorem neq_fd (a p e n : Int) (w : World) : (binOp .neq TFd (.agg #[.int .i64 a, .int .i64 p, .int .i64 e, .int .i64 n]) (.agg #[.int .i64 a, .int .i64 p, .int .i64 e, .int .i64 n])).run Tryd.prog w = .ok (.bool false) w := by
  rw [run_neq_struct]
  simp [go_sem]
theorem fd_cells {w : World} {base g cap : Nat} {F : List PM.Fd} (h : w.ownsRow base TFd 4 (.slice (some ⟨g, 0, none⟩) F.length cap) F.length (fdsC F)) {i : Nat} {f : PM.Fd} (hf : F[i]? = some f) :
    w.cell? ⟨g, i * 4, none⟩ = some (.int .i64 f.1) ∧ w.cell? ⟨g, i * 4 + 1, none⟩ = some (.int .i64 f.2.1) ∧ w.cell? ⟨g, i * 4 + 2, none⟩ = some (.int .i64 f.2.2.1) ∧ w.cell? ⟨g, i * 4 + 3, none⟩ = some (.int .i64 f.2.2.2) := by
  have hi := (List.getElem?_eq_some_iff.1 hf).1
  have hc : ∀ j u, (fdC f)[j]? = some u → w.cell? ⟨g, i * 4 + j, none⟩ = some u := fun j u hu => by
    have hj := (List.getElem?_eq_some_iff.1 hu).1
    have hj4 : j < 4 := by simpa [fdC] using hj
    rw [h.cellAt (i * 4 + j) (by omega)]
    exact fdsC_at F i f hf j u hu
  exact ⟨hc 0 _ rfl, hc 1 _ rfl, hc 2 _ rfl, hc 3 _ rfl⟩
set_option maxHeartbeats 4000000 in
/-- two lists that are one -/
theorem same_eq (v1 v2 : Value) (b1 b2 : Nat) (F : List PM.Fd) (w : World) (h1 : w.ownsRow b1 TFd 4 v1 F.length (fdsC F)) (h2 : w.ownsRow b2 TFd 4 v2 F.length (fdsC F)) (hl : F.length ≤ 1000000) :
    Calls Tryd.prog 25 #[v1, v2] w fun e w' => e = .returned (.bool true) ∧ Below w.heap.size w w' := by
  have hq := neq_fd
  have hform : ∀ (v : Value) (b : Nat), w.ownsRow b TFd 4 v F.length (fdsC F) → ∃ A c, v = .slice A F.length c ∧ ∀ i f, F[i]? = some f → ∃ g, A = some ⟨g, 0, none⟩ ∧ w.cell? ⟨g, i * 4, none⟩ = some (.int .i64 f.1) ∧ w.cell? ⟨g, i * 4 + 1, none⟩ = some (.int .i64 f.2.1) ∧ w.cell? ⟨g, i * 4 + 2, none⟩ = some (.int .i64 f.2.2.1) ∧ w.cell? ⟨g, i * 4 + 3, none⟩ = some (.int .i64 f.2.2.2) := fun v b h => by
    rcases own_slice h with ⟨hv, h0⟩ | ⟨g, cap, cs, hv, _⟩
    · refine ⟨none, 0, by rw [hv, h0], fun i f hf => ?_⟩
      have := (List.getElem?_eq_some_iff.1 hf).1
      omega
    · subst hv
      exact ⟨_, cap, rfl, fun i f hf => ⟨g, rfl, fd_cells h hf⟩⟩
  obtain ⟨A1, c1, rfl, e1⟩ := hform v1 b1 h1
  obtain ⟨A2, c2, rfl, e2⟩ := hform v2 b2 h2
  have HE := Lib.hid (And.intro e1 e2)
  have HB0 : Hid (Below w.heap.size w w) := Lib.hid ⟨rfl, rfl, rfl, Nat.le_refl _, fun _ _ => rfl⟩
  obtain ⟨n, hn⟩ : ∃ n, F.length = n := ⟨_, rfl⟩
  have HN := Lib.hid hn
  rw [hn] at hl ⊢
  clear h1 h2 hform e1 e2 hn
  go_enter Tryd.func25, Tryd.ntmps25
  go_wp2_with fail
  go_loopg [5] (n + 1) (fun k v5 wr => ∃ i : Nat, v5 = .int .i64 i ∧ i ≤ n ∧ n + 1 - i ≤ k ∧ Hid (Below w.heap.size w wr))
  case atStart => exact ⟨0, rfl, by omega, by omega, HB0⟩
  case round =>
    clear HB0
    obtain ⟨i, rfl, hi, hik, HB⟩ := hrel
    have hi0 : (0 : Int) ≤ i := by omega
    by_cases hlt : i < n
    · have hlt1 : (i : Int) < n := by omega
      obtain ⟨f, hf⟩ : ∃ f, F[i]? = some f := ⟨_, List.getElem?_eq_getElem (by rw [HN.out]; exact hlt)⟩
      obtain ⟨g1, rfl, a0, a1, a2, a3⟩ := HE.out.1 i f hf
      obtain ⟨g2, rfl, d0, d1, d2, d3⟩ := HE.out.2 i f hf
      have hk : ∀ {a : Addr} {v : Value}, w.cell? a = some v → wr.cell? a = some v := fun {a v} h => (HB.out.cell (World.block_lt_of_cell? w _ h)).trans h
      replace a0 := hk a0
      replace a1 := hk a1
      replace a2 := hk a2
      replace a3 := hk a3
      replace d0 := hk d0
      replace d1 := hk d1
      replace d2 := hk d2
      replace d3 := hk d3
      clear hk hf
      go_upto_region 6 with (fail)
      go_quiet (fail)
      have HB2 : Hid (Below w.heap.size w (wr.drewN nq)) := Lib.hid (HB.out.trans (below_drew _ wr nq))
      clear a0 a1 a2 a3 d0 d1 d2 d3 HB
      go_wp2_with fail
      go_roundg (gk - 1)
      case measure => omega
      case rel => exact ⟨i + 1, by go_num, by omega, by omega, HB2⟩
    · obtain rfl : i = n := by omega
      go_wp2_with fail
      go_ret
      exact ⟨rfl, HB.out⟩
theorem strs_bytes (a : ByteArray) : catS [a] = a.data.toList := by simp [catS]
set_option maxHeartbeats 8000000 in
theorem matchPieces_walk (A : Option Addr) (c : Nat) (ps : List Pat) (B : Option Addr) (d : Nat) (l : List ByteArray) (w : World) (hP : PIn w A ps) (hS : SIn w B l) (hn : ps.length ≤ 9223372036854775807) (hl : l.length ≤ 9223372036854775806) (hs : ∀ s ∈ l, s.size ≤ 140737488355327) (hT : Tab w) :
    Calls Tryd.prog 7 #[.slice A ps.length c, .slice B l.length d] w fun e w' => e = .returned (.bool true) ∧ Below w.heap.size w w' := by
  have HW := Lib.hid (works_any w hT)
  have HI := Lib.hid (And.intro hP (And.intro hS (And.intro hs (And.intro hT (And.intro hn hl)))))
  obtain ⟨n, hpn⟩ : ∃ n, ps.length = n := ⟨_, rfl⟩
  obtain ⟨N, hlN⟩ : ∃ N, l.length = N := ⟨_, rfl⟩
  have HN := Lib.hid (And.intro hpn hlN)
  rw [hlN] at hl
  rw [hpn] at hn
  rw [hpn, hlN]
  clear hP hS hs hT hpn hlN
  go_enter Tryd.func7, Tryd.ntmps7
  go_wp2_with fail
  refine HW.out.mono ?_
  rintro e W1 ⟨rfl, hup⟩
  have H1 := Lib.hid hup
  clear hup HW
  have HN1 := Lib.hid (new_any A c ps W1 (HI.out.1.on H1.out) (tab_on HI.out.2.2.2.1 H1.out) HI.out.2.2.2.2.1)
  rw [HN.out.1] at HN1
  go_wp2_with fail
  refine HN1.out.mono ?_
  rintro e W2 (⟨hno, rfl, hup⟩ | ⟨hmay, x, arms, R, rfl, hma, htr, hup, hge⟩)
  · have H2 := Lib.hid (And.intro (below_then H1.out hup (Nat.le_refl _)) hno)
    clear hno hup HN1
    have HN2 := Lib.hid (new_any A c ps W2 (HI.out.1.on H2.out.1) (tab_on HI.out.2.2.2.1 H2.out.1) HI.out.2.2.2.2.1)
    rw [HN.out.1] at HN2
    go_wp2_with fail
    refine HN2.out.mono ?_
    rintro e W3 (⟨_, rfl, hup⟩ | ⟨hmay, _⟩)
    · have H3 := Lib.hid (below_then H2.out.1 hup (Nat.le_refl _))
      clear hup
      go_wp2_with fail
      go_ret
      exact ⟨rfl, H3.out⟩
    · exact absurd hmay H2.out.2
  · have H2 := Lib.hid (And.intro (below_then H1.out hup (Nat.le_refl _)) (And.intro hma (And.intro htr (And.intro hge hmay))))
    have hs12 : Hid (W1.heap.size ≤ W2.heap.size) := Lib.hid hup.size
    clear hma htr hup hge hmay HN1
    have HN2 := Lib.hid (new_any A c ps W2 (HI.out.1.on H2.out.1) (tab_on HI.out.2.2.2.1 H2.out.1) HI.out.2.2.2.2.1)
    rw [HN.out.1] at HN2
    go_wp2_with fail
    refine HN2.out.mono ?_
    rintro e W3 (⟨hno, _⟩ | ⟨_, y, arms2, R2, rfl, hma, htr, hup, hge⟩)
    · exact absurd H2.out.2.2.2.2 hno
    · have htt : trees arms2 = trees arms := htr.one H2.out.2.2.1
      have hB1 := H1.out.size
      have HX := Lib.hid (H2.out.2.1.on hup)
      have HY := Lib.hid (And.intro hma (And.intro htt (fun k hk => Nat.le_trans (Nat.le_trans hB1 hs12.out) (hge k hk) : ∀ k, OwnM y R2 (.slice none 0 0) k → w.heap.size ≤ k)))
      have HXG : Hid ((∀ k, OwnM x R (.slice none 0 0) k → w.heap.size ≤ k) ∧ Apart y R2 (.slice none 0 0) x R (.slice none 0 0)) := Lib.hid ⟨fun k hk => Nat.le_trans hB1 (H2.out.2.2.2.1 k hk), fun k hk hk' => by have h1 := hge k hk; have h2 := H2.out.2.1.lt hk'; omega⟩
      have H3 := Lib.hid (below_then H2.out.1 hup (Nat.le_refl _))
      clear hma htr hup hge htt hB1 hs12 H2 HN2 H1
      have HSU := Lib.hid (sum_any B d l 2000 W3 (HI.out.2.1.on H3.out) HI.out.2.2.2.2.2 HI.out.2.2.1 (by decide))
      rw [HN.out.2] at HSU
      go_wp2_with fail
      refine HSU.out.mono ?_
      rintro e W4 ⟨rfl, m, rfl, hm1, hm2⟩
      by_cases hbig : 2000 < m
      · have hbig1 : (2000 : Int) < m := by omega
        clear hm1 hm2
        go_wp2_with fail
        go_ret
        exact ⟨rfl, H3.out⟩
      · have hbig1 : ¬ (2000 : Int) < m := by omega
        have HL : Hid ((catS l).length ≤ 2000) := Lib.hid (by rw [hm1 (by omega)]; omega)
        clear hm1 hm2 HSU
        go_upto_region 11 with (fail)
        go_loopg [10, 9] (N + 1) (fun k v10 v9 wr => ∃ (i : Nat) (ws : ByteArray), v10 = .int .i64 i ∧ v9 = .string ws ∧ i ≤ N ∧ N + 1 - i ≤ k ∧ ws.size ≤ 2000 ∧ Hid (ws.data.toList = catS (l.take i)) ∧ wr = W4)
        case atStart => exact ⟨0, ⟨#[]⟩, rfl, rfl, by omega, by omega, by decide, Lib.hid rfl, rfl⟩
        case round =>
          obtain ⟨i, ws, rfl, rfl, hi, hik, hws, HWS, rfl⟩ := hrel
          have hi0 : (0 : Int) ≤ i := by omega
          by_cases hlt : i < N
          · have hlt1 : (i : Int) < N := by omega
            obtain ⟨s, hsi⟩ : ∃ s, l[i]? = some s := ⟨_, List.getElem?_eq_getElem (by rw [HN.out.2]; exact hlt)⟩
            obtain ⟨ad, rfl, k0⟩ := (HI.out.2.1.on H3.out).at' i s hsi
            have HC : Hid ((ws ++ s).data.toList = catS (l.take (i + 1))) := Lib.hid (by rw [catS_take hsi, ByteArray.data_append, Array.toList_append, HWS.out])
            have hsz : ws.size + s.size ≤ 2000 := by
              have h1 := catS_le l (i + 1)
              rw [← HC.out] at h1
              have h2 : (ws ++ s).data.toList.length = ws.size + s.size := by
                show (ws ++ s).size = _
                rw [ByteArray.size_append]
              have := HL.out
              omega
            clear hsi HWS
            go_wp2_with fail
            go_roundg (gk - 1)
            case measure => omega
            case rel => exact ⟨i + 1, ws ++ s, by go_num, rfl, by omega, by omega, by rw [ByteArray.size_append]; exact hsz, HC, rfl⟩
          · obtain rfl : i = N := by omega
            have HWL : Hid (ws.data.toList = catS l) := Lib.hid (by have := HWS.out; rw [List.take_of_length_le (by rw [HN.out.2]; exact Nat.le_refl _)] at this; exact this)
            have HA1 := Lib.hid (all_any x arms [] R (.slice none 0 0) B d l wr HX.out (by decide) (fun w' ht => HI.out.2.1.on (below_turned H3.out H3.out.size ht HXG.out.1)) HI.out.2.2.2.2.2 (by have := HL.out; omega))
            rw [HN.out.2] at HA1
            clear HWS
            go_wp2_with fail
            refine HA1.out.mono ?_
            rintro e W5 ⟨v1, F1, K1, n1, R3, bv3, rfl, hAl⟩
            have hb5 : Below w.heap.size w W5 := below_turned H3.out H3.out.size hAl.tp HXG.out.1
            have hy5 := HY.out.1.other HX.out hAl.tp HXG.out.2
            have hb6 := below_new W5 (.cells #[.string ws] 9)
            have HAL := Lib.hid (hAl.on hb6)
            have HY6 := Lib.hid (hy5.on hb6)
            have H6 := Lib.hid (And.intro (below_then hb5 hb6 (Nat.le_refl _)) (heap_alloc_new W5 (.cells #[.string ws] 9)))
            clear hb5 hy5 hb6 hAl HA1
            go_upto_region 15 with (fail)
            have HA2 := Lib.hid (all_any y arms2 [] R2 (.slice none 0 0) (some ⟨W5.heap.size, 0, none⟩) 1 [ws] (W5.alloc (.cells #[.string ws] 9)) HY6.out (by decide) (fun w' ht => ⟨fun k s hk => by
              rcases k with _ | k
              · cases hk
                have hbk := (ht.block W5.heap.size (lt_of_block H6.out.2) (HY6.out.not H6.out.2 (by unfold OwnTy; decide))).trans H6.out.2
                exact ⟨_, rfl, by rw [Addr.add_lit, Nat.zero_add, cell_of_row _ _ _ _ _ _ hbk]; rfl⟩
              · cases hk⟩) (by show 1 ≤ 9223372036854775806; decide) (by rw [strs_bytes, HWL.out]; have := HL.out; omega))
            go_wp2_with fail
            refine HA2.out.mono ?_
            rintro e W7 ⟨v2, F2, K2, n2, R4, bv4, rfl, hBl⟩
            have hrun := HAL.out.run
            have hrun2 := hBl.run
            rw [strs_bytes, HWL.out, HY.out.2.1, hrun] at hrun2
            obtain ⟨rfl, hr2⟩ := Prod.mk.inj hrun2
            obtain ⟨rfl, rfl⟩ := Prod.mk.inj hr2
            have hx7 : MaIs W7 x arms K1 K1 R3 bv3 := HAL.out.ma.other HY6.out hBl.tp fun k hk hk' => by
              have hyl := HY.out.1.lt hk'
              exact HXG.out.2 k hk' (HAL.out.fr k hk hyl)
            have hv1 : W7.ownsRow wr.heap.size TFd 4 v1 F1.length (fdsC F1) := own_keep HAL.out.own fun g hg => by
              obtain ⟨cs, hc⟩ := own_typed HAL.out.own hg
              exact hBl.tp.block g (lt_of_block hc) (HY6.out.not hc fd_ty)
            have hFl : F1.length ≤ 1000000 := by
              have h1 := run_many (trees arms) (catS l) ([], [], 0)
              rw [hrun] at h1
              have := HL.out
              simp at h1
              omega
            have HSM := Lib.hid (same_eq v1 v2 _ _ F1 W7 hv1 hBl.own hFl)
            have H7 := Lib.hid (And.intro (below_turned H6.out.1 H6.out.1.size hBl.tp HY.out.2.2) (And.intro hx7 hBl.ma))
            clear hrun hrun2 hr2 hx7 hv1 hBl HA2 HAL H6 HY6
            go_wp2_with fail
            refine HSM.out.mono ?_
            rintro e W8 ⟨rfl, hup⟩
            have H8 := Lib.hid (And.intro (below_then H7.out.1 hup (Nat.le_refl _)) (And.intro (H7.out.2.1.on hup) (H7.out.2.2.on hup)))
            clear hup H7 HSM
            have HB1 := Lib.hid (buffer_any W8 H8.out.2.1)
            have HB2 := Lib.hid (buffer_any W8 H8.out.2.2)
            go_wp2_with fail
            refine HB1.out.mono ?_
            rintro e W9 ⟨rfl, rfl⟩
            go_wp2_with fail
            refine HB2.out.mono ?_
            rintro e W10 ⟨rfl, rfl⟩
            go_wp2_with fail
            go_ret
            exact ⟨by simp, H8.out.1⟩
end Go.Proofs.YtfhggnbnbopkkaaDoor
