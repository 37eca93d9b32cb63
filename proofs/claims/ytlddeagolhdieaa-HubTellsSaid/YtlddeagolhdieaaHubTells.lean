/- The walk of HubTells. -/
import Derived.Test.YtlddeagolhdieaaHubTellMath
import Derived.Test.YtlddeagolhdieaaQuietAfter
import Derived.Deep.DeepCutAuto
import Derived.Deep.CutBlock
import Derived.Deep.LoopGhost
import Derived.Deep.QuietTactic
import Derived.BigQuiet
namespace Go.Proofs.Ytlddeagolhdieaa
open Go.RowKit Go.MuLone Go.Conc

set_option maxRecDepth 100000
set_option maxHeartbeats 8000000
theorem below_drew2 (w : World) : Below w.heap.size w w.drew := ⟨rfl, rfl, rfl, Nat.le_refl _, fun _ _ => rfl⟩
theorem hubTells_walk (A0 : Option Addr) (c0 : Nat) (ps : List PIn) (A1 : Option Addr) (c1 : Nat) (fs : List Int) (A2 : Option Addr) (c2 : Nat) (ms : List Int) (w : World) (h0 : PartsIn w A0 ps) (h1 : NumsIn w A1 fs) (h2 : NumsIn w A2 ms)
    (n0 : ps.length ≤ 9223372036854775807) (n1 : fs.length ≤ 9223372036854775807) (n2 : ms.length ≤ 9223372036854775807) :
    Calls Try.prog 4 #[.slice A0 ps.length c0, .slice A1 fs.length c1, .slice A2 ms.length c2] w fun e w' => e = .returned (.bool true) ∧ Below w.heap.size w w' := by
  have HI0 := Lib.hid h0
  have HI1 := Lib.hid h1
  have HI2 := Lib.hid h2
  have HW := Lib.hid (works_any w)
  obtain ⟨np, hnp⟩ : ∃ n, ps.length = n := ⟨_, rfl⟩
  obtain ⟨nf, hnf⟩ : ∃ n, fs.length = n := ⟨_, rfl⟩
  obtain ⟨nm, hnm⟩ : ∃ n, ms.length = n := ⟨_, rfl⟩
  have HNN := Lib.hid (And.intro hnp (And.intro hnf hnm))
  rw [hnp] at n0 ⊢
  rw [hnf] at n1 ⊢
  rw [hnm] at n2 ⊢
  clear hnp hnf hnm h0 h1 h2
  go_enter Try.func4, Try.ntmps4
  go_wp2_with fail
  refine HW.out.mono ?_
  rintro e w0 ⟨rfl, hb0⟩
  have HB := Lib.hid hb0
  clear hb0 HW
  go_wp2_with fail
  go_loopg [8, 7] (np + 1) (fun k v8 v7 wr => ∃ (i L : Nat), v8 = .int .i64 i ∧ i ≤ np ∧ np + 1 - i ≤ k ∧ L ≤ 4398046515200 ∧ Hid (Below w.heap.size w wr ∧ wr.ownsRow w.heap.size THp 3 v7 L (hapsC (cat ps i)) ∧ (cat ps i).length = L))
  case atStart => exact ⟨0, 0, rfl, by omega, by omega, by omega, Lib.hid ⟨HB.out, ⟨rfl, .inl ⟨rfl, rfl⟩⟩, rfl⟩⟩
  case round =>
    clear HB
    obtain ⟨i, L, rfl, hi, hik, hL, HX⟩ := hrel
    obtain ⟨A7, c7, e7⟩ := own_sl HX.out.2.1
    subst e7
    by_cases hlt : i < np
    · have hlt1 : (i : Int) < np := by omega
      have hlt0 : (0 : Int) ≤ i := by omega
      by_cases hsm : L ≤ 4096
      · have hsm1 : (L : Int) ≤ 4096 := by omega
        obtain ⟨p, hp⟩ : ∃ p, ps[i]? = some p := ⟨_, List.getElem?_eq_getElem (by rw [HNN.out.1]; exact hlt)⟩
        obtain ⟨ad, rfl, hc, hin, hpl⟩ := (HI0.out.on HX.out.1) i p hp
        have HP := Lib.hid (And.intro hin (And.intro hp hpl))
        clear hin hp
        go_upto_region 6 with (at_builtin; refine wpList_append_much rfl _ _ rfl w.heap.size HX.out.1.size (.slice A7 L c7) L _ rfl HX.out.2.1 p.A p.l p.c rfl HP.out.1 hsm hpl ?_; intro v' w2 o1 g1; have HV := Lib.hid (And.intro o1 g1); clear o1 g1)
        go_wp2_with fail
        go_roundg (gk - 1)
        case measure => omega
        case rel => exact ⟨i + 1, L + p.l.length, by go_num, by omega, by omega, by omega, Lib.hid ⟨HX.out.1.trans (below_grown' HV.out.2 HX.out.1.size (fun b e => (own_lt HX.out.2.1 e).2)), by rw [cat_succ HP.out.2.1, hapsC_append]; exact HV.out.1, by rw [cat_succ HP.out.2.1, List.length_append, HX.out.2.2]⟩⟩
      · have hsm1 : ¬ (L : Int) ≤ 4096 := by omega
        have hbig : (4096 : Int) < L := by omega
        clear hsm
        go_wp2_with fail
        go_ret
        exact ⟨rfl, HX.out.1⟩
    · obtain rfl : np = i := by omega
      by_cases hbig : 4096 < L
      · have hbig1 : (4096 : Int) < L := by omega
        clear hbig
        go_wp2_with fail
        go_ret
        exact ⟨rfl, HX.out.1⟩
      · have hsm : L ≤ 4096 := by omega
        have hbig1 : ¬ (4096 : Int) < L := by omega
        clear hbig
        by_cases hmp : 200 < np
        · have hmp1 : (200 : Int) < np := by omega
          clear hmp
          go_wp2_with fail
          go_ret
          exact ⟨rfl, HX.out.1⟩
        · have hp2 : np ≤ 200 := by omega
          have hmp1 : ¬ (200 : Int) < np := by omega
          clear hmp
          by_cases hmf : 50 < nf
          · have hmf1 : (50 : Int) < nf := by omega
            clear hmf
            go_wp2_with fail
            go_ret
            exact ⟨rfl, HX.out.1⟩
          · have hf5 : nf ≤ 50 := by omega
            have hmf1 : ¬ (50 : Int) < nf := by omega
            clear hmf
            go_wp2_with fail
            refine (new_any wr).mono ?_
            rintro e w1 ⟨S0, rfl, H, hS, hb⟩
            obtain ⟨all, hall⟩ : ∃ all, cat ps np = all := ⟨_, rfl⟩
            rw [hall] at HX
            obtain rfl : all.length = L := HX.out.2.2
            have HT := Lib.hid (Tell.start HX.out.1 H hb HX.out.2.1)
            have HS := Lib.hid (hS 3 (by decide))
            have HAL := Lib.hid (show cat ps ps.length = all by rw [HNN.out.1]; exact hall)
            clear H hS hb HX hall
            generalize wr.heap.size = hh at *
            go_wp2_with fail
            go_loopg [14, 10, 11, 12, 13] (np + 2) (fun k v14 v10 v11 v12 v13 wr => ∃ (i tn : Nat) (S : Nat → StR) (K : List Tl), v14 = .int .i64 i ∧ v13 = .int .i64 tn ∧ i ≤ np + 1 ∧ np + 2 - i ≤ k ∧ tn ≤ i * 50 ∧ Hid (Tell w wr hh hh S all (.slice A7 all.length c7) v10 v11 v12 K ∧ (S 3).l = cat ps i ∧ (S 3).cl = decide (np < i) ∧ K.length ≤ i ∧ K.length ≤ nf ∧ (∀ q ∈ K, q.p = q.b + q.t) ∧ (np < i → ∀ q ∈ K, q.p = all.length)))
            case atStart => exact ⟨0, 0, S0, [], rfl, rfl, by omega, by omega, by omega, Lib.hid ⟨HT.out, HS.out.1, HS.out.2.1.trans (decide_eq_false (by omega)).symm, by simp, by simp, fun q hq => by simp at hq, fun _ q hq => by simp at hq⟩⟩
            case round =>
              clear HT HS
              obtain ⟨i, tn, S, K, rfl, rfl, hi, hik, htn, HX⟩ := hrel
              have hi0 : (0 : Int) ≤ i := by omega
              by_cases hle : i ≤ np
              · have hle1 : (i : Int) ≤ np := by omega
                go_upto_if 64 with fail
                go_cut [10, 11, 12] (fun v10 v11 v12 wx => ∃ (S : Nat → StR) (K : List Tl), Hid (Tell w wx hh hh S all (.slice A7 all.length c7) v10 v11 v12 K ∧ (S 3).l = cat ps (i + 1) ∧ (S 3).cl = decide (np = i) ∧ K.length ≤ i + 1 ∧ K.length ≤ nf ∧ (∀ q ∈ K, q.p = q.b + q.t)))
                case first =>
                  as_aux_lemma =>
                  by_cases hlt : i < np
                  · have hlt1 : (i : Int) < np := by omega
                    obtain ⟨p, hp⟩ : ∃ p, ps[i]? = some p := ⟨_, List.getElem?_eq_getElem (by rw [HNN.out.1]; exact hlt)⟩
                    obtain ⟨ad, rfl, hc, hin, hpl⟩ := HI0.out i p hp
                    have hcw : wr.cell? (ad.add i) = some (.slice p.A p.l.length p.c) := (HX.out.1.up.cell (World.block_lt_of_cell? w _ hc)).trans hc
                    have hcat := cat_succ hp
                    have hlen : (cat ps (i + 1)).length ≤ 4096 := by have := cat_le ps (i + 1); rw [HAL.out] at this; omega
                    have HA := Lib.hid (tell_add HX.out.1 p.A p.l p.c hin (HX.out.2.2.1.trans (decide_eq_false (by omega))) (by rw [HX.out.2.1, ← List.length_append, ← hcat]; exact hlen))
                    have HC := Lib.hid (And.intro hcat (And.intro hp hlen))
                    clear hc hin hcat hp hlen
                    go_wp2_with fail
                    refine HA.out.mono ?_
                    rintro e w2 ⟨rfl, S2, P2, hl2, hcl2⟩
                    have HP2 : Hid (Tell w w2 hh hh S2 all (.slice A7 all.length c7) u10 u11 u12 K ∧ (S2 3).l = cat ps (i + 1) ∧ (S2 3).cl = decide (np = i)) := Lib.hid ⟨P2, by rw [hl2, HX.out.2.1, ← HC.out.1], by rw [hcl2]; exact (decide_eq_false (by omega)).symm⟩
                    clear P2 hl2 hcl2 hcw HA
                    by_cases hif : i < nf
                    · have hif1 : (i : Int) < nf := by omega
                      obtain ⟨f, hf⟩ : ∃ f, fs[i]? = some f := ⟨_, List.getElem?_eq_getElem (by rw [HNN.out.2.1]; exact hif)⟩
                      obtain ⟨ad1, rfl, hc1, hf1, hf2⟩ := HI1.out i f hf
                      have kf : w2.cell? (ad1.add i) = some (.int .i64 f) := (HP2.out.1.up.cell (World.block_lt_of_cell? w _ hc1)).trans hc1
                      have HC1 := Lib.hid (World.block_lt_of_cell? w _ hc1)
                      clear hf hc1
                      go_wp2_with fail
                      refine (tell_watch HP2.out.1 f).mono ?_
                      rintro e w3 (⟨f0, fL, rfl, hw, hb⟩ | ⟨hno, rfl, rfl⟩)
                      · obtain ⟨b, rfl⟩ : ∃ b : Nat, f = b := ⟨f.toNat, by omega⟩
                        have kf3 : w3.cell? (ad1.add i) = some (.int .i64 b) := (hb.cell (World.block_lt_of_cell? w2 _ kf)).trans kf
                        have hgw : ∀ (j : Nat) q, K[j]? = some q → q.g ≠ w2.heap.size := fun j q hj => by have := lt_of_block (HP2.out.1.wat j q hj).1; omega
                        have HP3 := Lib.hid (And.intro (HP2.out.1.on hb) (And.intro hw (And.intro hgw HP2.out.1.ge.2)))
                        have HL3 := Lib.hid (fun m => tell_len HP3.out.1 m)
                        clear hw hb hgw kf
                        generalize w2.heap.size = gw at *
                        go_upto_region 23 with fail
                        go_quiet (first | (go_at_call 22; exact Calls.quiet_of_same (HL3.out _)))
                        have HP4 := Lib.hid (And.intro (HP3.out.1.on (below_drewN w3 nq)) (And.intro (HP3.out.2.1.on (below_drewN w3 nq)) HP3.out.2.2))
                        have kf4 := ((below_drewN w3 nq).cell (World.block_lt_of_cell? w3 _ kf3)).trans kf3
                        clear HP3 HL3 kf3
                        generalize w3.drewN nq = w4 at *
                        have hn4 := heap_alloc_new w4 (.cells #[.pointer (some ⟨gw, 0, none⟩)] TPw)
                        have hB4 := below_new w4 (.cells #[.pointer (some ⟨gw, 0, none⟩)] TPw)
                        have T4 := Lib.hid (HP4.out.1.three.on hB4)
                        have hK5 : K.length ≤ 100000 := by have := HX.out.2.2.2.1; omega
                        have hle4 := HP4.out.1.ge.2
                        go_upto_region 27 with (at_builtin; refine wpList_append_one rfl _ _ 33 TPw (.pointer none) 8 rfl Try.underlying33 info_pw rfl (by decide) hh (Nat.le_trans hle4 hB4.size) u10 K.length _ rfl T4.out.r10 w4.heap.size (.pointer (some ⟨gw, 0, none⟩)) (0, 0) rfl hn4 rfl hK5 ?_; intro v10' w5 o5 g5 hv5; have HV5 := Lib.hid (And.intro o5 g5); clear o5 g5 hv5)
                        have T5 := Lib.hid (T4.out.a10 HV5.out.2 HV5.out.1)
                        have F5 := Lib.hid ((Off.of_below (S := u10.ownBlock.toList) hB4).trans (off_grown HV5.out.2) (fun k hk => .inl hk))
                        have hlow : (ad1.add i).block < hh := Nat.lt_of_lt_of_le HC1.out HP4.out.1.ge.1
                        have kf5 : w5.cell? (ad1.add i) = some (.int .i64 b) := low_cell F5.out kf4 (fun g hg => (HP4.out.1.r10.lt g (by simpa using hg)).1) hlow
                        clear kf4
                        clear hn4
                        have hn5 := heap_alloc_new w5 (.cells #[.slice none 0 0] THs)
                        have hB5 := below_new w5 (.cells #[.slice none 0 0] THs)
                        have T6 := Lib.hid (T5.out.on hB5)
                        have hle5 := Nat.le_trans hle4 F5.out.size
                        go_upto_region 28 with (at_builtin; refine wpList_append_one rfl _ _ 56 THs (.slice none 0 0) 24 rfl Try.underlying56 info_hs rfl (by decide) hh (Nat.le_trans hle5 hB5.size) u11 K.length _ rfl T6.out.r11 w5.heap.size (.slice none 0 0) (0, 0) rfl hn5 rfl hK5 ?_; intro v11' w6 o6 g6 hv6; have HV6 := Lib.hid (And.intro o6 g6); clear o6 g6 hv6)
                        have T7 := Lib.hid (T6.out.a11 HV6.out.2 HV6.out.1)
                        have F6 := Lib.hid ((Off.of_below (S := u11.ownBlock.toList) hB5).trans (off_grown HV6.out.2) (fun k hk => .inl hk))
                        have kf6 : w6.cell? (ad1.add i) = some (.int .i64 b) := low_cell F6.out kf5 (fun g hg => (HP4.out.1.r11.lt g (by simpa using hg)).1) hlow
                        clear hn5 kf5
                        have hn6 := heap_alloc_new w6 (.cells #[.int .i64 b] 3)
                        have hB6 := below_new w6 (.cells #[.int .i64 b] 3)
                        have T8 := Lib.hid (T7.out.on hB6)
                        have hle6 := Nat.le_trans hle5 F6.out.size
                        go_wp2_with (at_builtin; refine wpList_append_one rfl _ _ 34 3 (.int .i64 0) 8 rfl Try.underlying34 info_in rfl (by decide) hh (Nat.le_trans hle6 hB6.size) u12 K.length _ rfl T8.out.r12 w6.heap.size (.int .i64 b) (0, 0) rfl hn6 rfl hK5 ?_; intro v12' w7 o7 g7 hv7; have HV7 := Lib.hid (And.intro o7 g7); clear o7 g7 hv7)
                        go_meet
                        case rel =>
                          have T9 := T8.out.a12 HV7.out.2 HV7.out.1
                          have F7 := (Off.of_below (S := u12.ownBlock.toList) hB6).trans (off_grown HV7.out.2) (fun k hk => .inl hk)
                          have L1 : ∀ k ∈ u10.ownBlock.toList, k ∈ u10.ownBlock.toList ++ (u11.ownBlock.toList ++ u12.ownBlock.toList) := fun k hk => List.mem_append.2 (.inl hk)
                          have FF := ((F5.out.mono L1).trans F6.out (fun k hk => .inl (List.mem_append.2 (.inr (List.mem_append.2 (.inl hk)))))).trans F7 (fun k hk => .inl (List.mem_append.2 (.inr (List.mem_append.2 (.inr hk)))))
                          have hbl : b ≤ (S2 3).l.length := by omega
                          have PM := HP4.out.1.more (g := gw) (b := b) FF (fun g hg => by
                            simp only [List.mem_append, Option.mem_toList] at hg
                            rcases hg with e | e | e
                            · exact .inl e
                            · exact .inr (.inl e)
                            · exact .inr (.inr e)) T9 HP4.out.2.1 hbl (by
                              rw [HP2.out.2.1] at hbl
                              have := cat_le ps (i + 1)
                              rw [HAL.out] at this
                              omega) HP4.out.2.2.2 HP4.out.2.2.1
                          refine ⟨S2, _, Lib.hid ⟨PM, HP2.out.2.1, HP2.out.2.2, ?_, ?_, fun q hq => ?_⟩⟩
                          · rw [List.length_append]; have := HX.out.2.2.2.1; simp; omega
                          · rw [List.length_append]; have := HX.out.2.2.2.1; simp; omega
                          · rcases List.mem_append.1 hq with hq | hq
                            · exact HX.out.2.2.2.2.2.1 q hq
                            · simp only [List.mem_singleton] at hq; subst hq; rfl
                      · have HL3 := Lib.hid (fun m => tell_len HP2.out.1 m)
                        have HFIN : Hid (∀ m, ∃ (S : Nat → StR) (K : List Tl), Hid (Tell w (w3.drewN m) hh hh S all (.slice A7 all.length c7) u10 u11 u12 K ∧ (S 3).l = cat ps (i + 1) ∧ (S 3).cl = decide (np = i) ∧ K.length ≤ i + 1 ∧ K.length ≤ nf ∧ (∀ q ∈ K, q.p = q.b + q.t))) :=
                          Lib.hid (fun m => ⟨S2, K, Lib.hid ⟨HP2.out.1.on (below_drewN w3 m), HP2.out.2.1, HP2.out.2.2, by have := HX.out.2.2.2.1; omega, HX.out.2.2.2.2.1, HX.out.2.2.2.2.2.1⟩⟩)
                        by_cases hneg : 0 ≤ f
                        · have hbig : ¬ f ≤ ((S2 3).l.length : Int) := fun h => hno ⟨hneg, h⟩
                          clear hno
                          go_upto_region 23 with fail
                          go_quiet (first | (go_at_call 22; exact Calls.quiet_of_same (HL3.out _)))
                          go_wp2_with fail
                          go_meet
                          case rel => exact HFIN.out _
                        · have hneg1 : decide (0 ≤ f) = false := decide_eq_false hneg
                          clear hno hneg
                          go_upto_region 23 with fail
                          go_quiet (first | (go_at_call 22; exact Calls.quiet_of_same (HL3.out _)))
                          go_wp2_with fail
                          go_meet
                          case rel => exact HFIN.out _
                    · have hif1 : ¬ (i : Int) < nf := by omega
                      go_wp2_with fail
                      go_meet
                      case rel => exact ⟨S2, K, Lib.hid ⟨HP2.out.1, HP2.out.2.1, HP2.out.2.2, by have := HX.out.2.2.2.1; omega, HX.out.2.2.2.2.1, HX.out.2.2.2.2.2.1⟩⟩
                  · obtain rfl : np = i := by omega
                    have HA := Lib.hid (tell_close HX.out.1 (HX.out.2.2.1.trans (decide_eq_false (by omega))))
                    have hlt1 : ¬ (np : Int) < np := by omega
                    go_wp2_with fail
                    refine HA.out.mono ?_
                    rintro e w2 ⟨rfl, S2, P2, hl2, hcl2⟩
                    have HP2 : Hid (Tell w w2 hh hh S2 all (.slice A7 all.length c7) u10 u11 u12 K ∧ (S2 3).l = cat ps (np + 1) ∧ (S2 3).cl = decide (np = np)) := Lib.hid ⟨P2, by rw [hl2, HX.out.2.1, cat_all (i := np + 1) (by rw [HNN.out.1]; omega), HNN.out.1], by rw [hcl2]; simp⟩
                    clear P2 hl2 hcl2 HA
                    go_wp2_with fail
                    go_meet
                    case rel => exact ⟨S2, K, Lib.hid ⟨HP2.out.1, HP2.out.2.1, HP2.out.2.2, by have := HX.out.2.2.2.1; omega, HX.out.2.2.2.2.1, HX.out.2.2.2.2.2.1⟩⟩
                case rest =>
                  as_aux_lemma =>
                  obtain ⟨S2, K2, HR⟩ := hcut
                  clear HX
                  obtain ⟨KL, hKL⟩ : ∃ KL, K2.length = KL := ⟨_, rfl⟩
                  rw [hKL] at HR
                  have hkn : KL ≤ 50 := by have := HR.out.2.2.2.2.1; omega
                  obtain ⟨A10, c10, e10⟩ := own_sl HR.out.1.r10
                  rw [hKL] at e10
                  subst e10
                  obtain ⟨A11, c11, e11⟩ := own_sl HR.out.1.r11
                  rw [hKL] at e11
                  subst e11
                  obtain ⟨gko, rfl⟩ : ∃ g, g = gk := ⟨_, rfl⟩
                  have HCL := Lib.hid (show (cat ps (i + 1)).length ≤ 4096 by have := cat_le ps (i + 1); rw [HAL.out] at this; omega)
                  go_wp2_with fail
                  go_loopg [17, 13] (KL + 1) (fun k v17 v13 wr => ∃ (kk tk : Nat) (K : List Tl), v17 = .int .i64 kk ∧ v13 = .int .i64 tk ∧ kk ≤ KL ∧ KL + 1 - kk ≤ k ∧ tk ≤ tn + kk ∧ Hid (Tell w wr hh hh S2 all (.slice A7 all.length c7) (.slice A10 KL c10) (.slice A11 KL c11) u12 K ∧ K.length = KL ∧ (∀ q ∈ K, q.p = q.b + q.t) ∧ (np = i → ∀ (j : Nat) q, j < kk → K[j]? = some q → q.p = all.length)))
                  case atStart => exact ⟨0, tn, K2, rfl, rfl, by omega, by omega, by omega, Lib.hid ⟨HR.out.1, hKL, HR.out.2.2.2.2.2, fun _ j q hj => by omega⟩⟩
                  case round =>
                    obtain ⟨kk, tk, K, rfl, rfl, hk, hkk, htk, HK⟩ := hrel
                    have hk0 : (0 : Int) ≤ kk := by omega
                    by_cases hlt : kk < KL
                    · have hlt1 : (kk : Int) < KL := by omega
                      have htk0 : (0 : Int) ≤ tk := by omega
                      go_upto_if 136 with fail
                      go_cut [18] (fun v18 wx => ∃ nn : Int, v18 = .int .i64 nn ∧ -9223372036854775808 ≤ nn ∧ nn ≤ 9223372036854775807 ∧ wx = wr)
                      case first =>
                        by_cases hm : 0 < nm
                        · have hm1 : (0 : Int) < nm := by omega
                          obtain ⟨x, hx⟩ : ∃ x, ms[tk % nm]? = some x := ⟨_, List.getElem?_eq_getElem (by rw [HNN.out.2.2]; exact Nat.mod_lt _ hm)⟩
                          obtain ⟨ad2, rfl, hc2, hx1, hx2⟩ := HI2.out _ x hx
                          have kx : wr.cell? (ad2.add (tk % nm)) = some (.int .i64 x) := (HK.out.1.up.cell (World.block_lt_of_cell? w _ hc2)).trans hc2
                          obtain ⟨rr, hrr⟩ : ∃ rr : Nat, tk % nm = rr := ⟨_, rfl⟩
                          rw [hrr] at kx
                          have hrl : rr < nm := by rw [← hrr]; exact Nat.mod_lt _ hm
                          have hrt : Int.tmod (tk : Int) nm = rr := by rw [Int.tmod_eq_emod_of_nonneg htk0, ← hrr]; rfl
                          have hrl1 : (rr : Int) < nm := by omega
                          have hrl0 : (0 : Int) ≤ rr := by omega
                          clear hrr hc2 hx
                          go_wp2_with fail
                          go_meet
                          case rel => exact ⟨x, rfl, hx1, hx2, rfl⟩
                        · have hm1 : ¬ (0 : Int) < nm := by omega
                          go_wp2_with fail
                          go_meet
                          case rel => exact ⟨3, rfl, by decide, by decide, rfl⟩
                      case rest =>
                        obtain ⟨n1, rfl, hn1, hn2, rfl⟩ := hcut
                        go_upto_if 149 with fail
                        go_cut [18] (fun v18 wx => ∃ nn : Int, v18 = .int .i64 nn ∧ -9223372036854775808 ≤ nn ∧ nn ≤ 9223372036854775807 ∧ (np = i → nn = 4097) ∧ wx = wc)
                        case first =>
                          by_cases hin : i = np
                          · have hin1 : (i : Int) = np := by omega
                            go_wp2_with fail
                            go_meet
                            case rel => exact ⟨4097, rfl, by decide, by decide, fun _ => rfl, rfl⟩
                          · have hin1 : ¬ (i : Int) = np := by omega
                            go_wp2_with fail
                            go_meet
                            case rel => exact ⟨n1, rfl, hn1, hn2, fun e => absurd e.symm hin, rfl⟩
                        case rest =>
                          as_aux_lemma =>
                          obtain ⟨n3, rfl, hn3, hn4, hn5, rfl⟩ := hcut
                          obtain ⟨q, hq⟩ : ∃ q, K[kk]? = some q := ⟨_, List.getElem?_eq_getElem (by rw [HK.out.2.1]; exact hlt)⟩
                          obtain ⟨g10, c10', e10⟩ := own_form HK.out.1.r10 (by have := HK.out.2.1; omega)
                          injection e10 with e10 el e10'
                          clear el
                          subst e10
                          obtain ⟨g11, c11', e11⟩ := own_form HK.out.1.r11 (by have := HK.out.2.1; omega)
                          injection e11 with e11 el e11'
                          clear el
                          subst e11
                          clear e10' e11'
                          have hkl : kk < K.length := by rw [HK.out.2.1]; exact hlt
                          have hP := HK.out.1
                          have p10 : wc.cell? ⟨g10, kk, none⟩ = some (.pointer (some ⟨q.g, 0, none⟩)) := by
                            have h := hP.r10
                            rw [HK.out.2.1] at h
                            rw [h.cellAt kk (by omega), List.getElem?_map, hq]; rfl
                          obtain ⟨x, hx⟩ : ∃ x, nx (S2 3).l q.p n3 = x := ⟨_, rfl⟩
                          obtain ⟨mr, hmr⟩ : ∃ mr, (!(S2 3).cl || decide (q.p + x < (S2 3).l.length)) = mr := ⟨_, rfl⟩
                          have HN := Lib.hid (tell_next hP hq n3 ⟨hn3, hn4⟩)
                          rw [hx, hmr] at HN
                          have hle := (hP.wat kk q hq).2.1
                          have hqx : q.p + x ≤ (S2 3).l.length := by rw [← hx]; exact nx_le _ _ _ hle
                          have hqp : q.p = q.b + q.t := HK.out.2.2.1 q (List.mem_of_getElem? hq)
                          have hmost : (x : Int) ≤ (if n3 < 0 then 0 else n3) := by rw [← hx]; exact nx_most _ _ _ hle
                          have h97 : np = i → q.p + x = (S2 3).l.length ∧ n3 = 4097 := fun e => by
                            have e2 := nx_all hle (by rw [HR.out.2.1]; exact HCL.out)
                            rw [hn5 e] at hx
                            exact ⟨by omega, hn5 e⟩
                          obtain ⟨pre, hpre⟩ := cat_pre ps (i + 1)
                          rw [HAL.out, ← HR.out.2.1] at hpre
                          have hall : q.b + (q.t + x) ≤ all.length := by rw [hpre, List.length_append]; omega
                          have hml : (((S2 3).l.drop q.p).take x).length = x := by rw [List.length_take, List.length_drop]; omega
                          have hmore := told_more hpre hqp hqx
                          have HQ := Lib.hid (And.intro hq (And.intro hmr (And.intro h97 (And.intro hall (And.intro hmore (And.intro hml (And.intro hkl (And.intro hqp hpre))))))))
                          have hx4 : x ≤ 4096 := by have := HCL.out; rw [← HR.out.2.1] at this; omega
                          have ht4 : q.t + x ≤ 4096 := by omega
                          clear hq hkl hP hx hmr hqx h97 hall hml hmore hpre hqp hle hn5
                          go_wp2_with fail
                          refine HN.out.mono ?_
                          rintro e w2 ⟨v', rfl, P2, hown, hsz⟩
                          obtain ⟨A', c', rfl⟩ := own_sl hown
                          have hq2 : (K.set kk { q with p := q.p + x })[kk]? = some { q with p := q.p + x } := List.getElem?_set_self HQ.out.2.2.2.2.2.2.1
                          have HP2 := Lib.hid (And.intro P2 (And.intro hown (And.intro hsz hq2)))
                          have p11 : w2.cell? ⟨g11, kk, none⟩ = some q.v := by
                            have h := P2.r11
                            rw [List.length_set, HK.out.2.1] at h
                            rw [h.cellAt kk (by omega), List.getElem?_map, hq2]; rfl
                          clear P2 hown hsz hq2 p10 HN
                          go_upto_region 41 with (fail)
                          have hle2 := HP2.out.1.ge.2
                          go_upto_region 42 with (at_builtin; refine wpList_append_any rfl _ _ rfl hh hle2 q.v q.t _ rfl (HP2.out.1.told kk _ HP2.out.2.2.2).1 A' (((S2 3).l.drop q.p).take x) c' (by rw [HQ.out.2.2.2.2.2.1]; rfl) (own_hin HP2.out.2.1).1 (by rw [HQ.out.2.2.2.2.2.1]; omega) ?_; intro v'' w3 o3 g3 hv3; rw [HQ.out.2.2.2.2.2.1, ← hapsC_append, HQ.out.2.2.2.2.1] at o3; obtain ⟨A4, c4, rfl⟩ := own_sl o3; have HV := Lib.hid (And.intro o3 (And.intro g3 hv3)); clear o3 g3 hv3; have r11 := HP2.out.1.r11.kept HV.out.2.1 (rown_ne HP2.out.1.r11 (HP2.out.1.told kk _ HP2.out.2.2.2).1 (by decide)); have p11b : w3.cell? ⟨g11, kk, none⟩ = some q.v := (by have h := r11; rw [List.length_set, HK.out.2.1] at h; rw [h.cellAt kk (by omega), List.getElem?_map, HP2.out.2.2.2]; rfl); have f11 : w3.frozen? ⟨g11, kk, none⟩ = false := (by have h := r11; rw [List.length_set, HK.out.2.1] at h; exact h.frozenAt kk); clear r11 p11)
                          have HT := HP2.out.1.tell HP2.out.2.2.2 HV.out.2.1 HV.out.1 HQ.out.2.2.2.1 HV.out.2.2
                          rw [List.set_set] at HT
                          have hlast : np = i → ∀ (j : Nat) r, j < kk + 1 → (K.set kk { q with p := q.p + x, t := q.t + x, v := .slice A4 (q.t + x) c4 })[j]? = some r → r.p = all.length := fun e j r hj hr => by
                            rcases tset_get hr with ⟨rfl, rfl, _⟩ | ⟨hne, hr⟩
                            · show q.p + x = all.length
                              rw [(HQ.out.2.2.1 e).1, HR.out.2.1, ← HAL.out, cat_all (by rw [HNN.out.1]; omega)]
                            · exact HK.out.2.2.2 e j r (by omega) hr
                          have hpbt : ∀ r ∈ K.set kk { q with p := q.p + x, t := q.t + x, v := .slice A4 (q.t + x) c4 }, r.p = r.b + r.t := fun r hr => by
                            rcases List.mem_or_eq_of_mem_set hr with hr | rfl
                            · exact HK.out.2.2.1 r hr
                            · show q.p + x = q.b + (q.t + x)
                              have := HQ.out.2.2.2.2.2.2.2.1
                              omega
                          have HFIN : Hid (∃ (kk' tk' : Nat) (K' : List Tl), (Value.int .i64 ((kk : Int) + 1) = .int .i64 kk') ∧ (Value.int .i64 ((tk : Int) + 1) = .int .i64 tk') ∧ kk' ≤ KL ∧ KL + 1 - kk' ≤ gk - 1 ∧ tk' ≤ tn + kk' ∧ Hid (Tell w (w3.setCell ⟨g11, kk, none⟩ (.slice A4 (q.t + x) c4)) hh hh S2 all (.slice A7 all.length c7) (.slice (some ⟨g10, 0, none⟩) KL c10) (.slice (some ⟨g11, 0, none⟩) KL c11) u12 K' ∧ K'.length = KL ∧ (∀ q ∈ K', q.p = q.b + q.t) ∧ (np = i → ∀ (j : Nat) q, j < kk' → K'[j]? = some q → q.p = all.length))) :=
                            Lib.hid ⟨kk + 1, tk + 1, _, by go_num, by go_num, by omega, by omega, by omega, Lib.hid ⟨HT, by rw [List.length_set]; exact HK.out.2.1, hpbt, hlast⟩⟩
                          have hmr := HQ.out.2.1
                          rw [HR.out.2.2.1] at hmr
                          have h97 := HQ.out.2.2.1
                          clear HT hlast hpbt HQ HP2 HV
                          by_cases hin : np = i
                          · obtain rfl : mr = false := by rw [← hmr, (h97 hin).1, decide_eq_true hin]; simp
                            have hn0 : ¬ n3 < 0 := by
                              have := (h97 hin).2
                              omega
                            rw [if_neg hn0] at hmost
                            clear hmr h97
                            subst hin
                            go_wp2_with fail
                            go_roundg (gk - 1)
                            case measure => omega
                            case rel => exact HFIN.out
                          · have hin1 : ¬ (i : Int) = np := by omega
                            have hin2 : (i : Int) < np := by omega
                            obtain rfl : mr = true := by rw [← hmr, decide_eq_false hin]; rfl
                            clear hmr h97 hin
                            by_cases hn0 : n3 < 0
                            · rw [if_pos hn0] at hmost
                              obtain rfl : x = 0 := by omega
                              go_wp2_with fail
                              go_roundg (gk - 1)
                              case measure => omega
                              case rel => exact HFIN.out
                            · rw [if_neg hn0] at hmost
                              go_wp2_with fail
                              go_roundg (gk - 1)
                              case measure => omega
                              case rel => exact HFIN.out
                    · obtain rfl : KL = kk := by omega
                      go_wp2_with fail
                      go_roundg (gko - 1)
                      case measure => omega
                      case rel => exact ⟨i + 1, tk, S2, K, by go_num, rfl, by omega, by omega, by omega, Lib.hid ⟨HK.out.1, HR.out.2.1, HR.out.2.2.1.trans (by rw [decide_eq_decide]; omega), by have := HR.out.2.2.2.1; have := HK.out.2.1; omega, by have := HR.out.2.2.2.2.1; have := HK.out.2.1; omega, HK.out.2.2.1, fun e q hq => by
                        obtain ⟨j, hj⟩ := List.mem_iff_getElem?.1 hq
                        exact HK.out.2.2.2 (by omega) j q (by have := (List.getElem?_eq_some_iff.1 hj).1; have := HK.out.2.1; omega) hj⟩⟩
              · obtain rfl : i = np + 1 := by omega
                as_aux_lemma =>
                have hle1 : ¬ ((np + 1 : Nat) : Int) ≤ np := by omega
                obtain ⟨KL, hKL⟩ : ∃ KL, K.length = KL := ⟨_, rfl⟩
                obtain ⟨A10, c10, e10⟩ := own_sl HX.out.1.r10
                rw [hKL] at e10
                subst e10
                obtain ⟨A11, c11, e11⟩ := own_sl HX.out.1.r11
                rw [hKL] at e11
                subst e11
                obtain ⟨A12, c12, e12⟩ := own_sl HX.out.1.r12
                rw [hKL] at e12
                subst e12
                have HKL := Lib.hid hKL
                have hk50 : KL ≤ 50 := by have := HX.out.2.2.2.2.1; omega
                clear hKL
                go_wp2_with fail
                obtain ⟨W, hW⟩ : ∃ W, wr = W := ⟨_, rfl⟩
                subst hW
                go_loopg [21] (KL + 1) (fun k v21 wx => ∃ j : Nat, v21 = .int .i64 j ∧ j ≤ KL ∧ KL + 1 - j ≤ k ∧ Hid (Below wr.heap.size wr wx))
                case atStart => exact ⟨0, rfl, by omega, by omega, Lib.hid (Below.refl _ _)⟩
                case round =>
                  obtain ⟨j, rfl, hj, hjk, HB⟩ := hrel
                  by_cases hjl : j < KL
                  · have hj1 : (j : Int) < KL := by omega
                    have hj0 : (0 : Int) ≤ j := by omega
                    have hjK : j < K.length := by rw [HKL.out]; exact hjl
                    obtain ⟨q, hq⟩ : ∃ q, K[j]? = some q := ⟨_, List.getElem?_eq_getElem hjK⟩
                    have P := HX.out.1.on HB.out
                    obtain ⟨htd, htl⟩ := P.told j q hq
                    have hqm := List.mem_of_getElem? hq
                    have hqa : q.b + q.t = all.length := by rw [← HX.out.2.2.2.2.2.1 q hqm]; exact HX.out.2.2.2.2.2.2 (by omega) q hqm
                    obtain ⟨g11, c11', e11⟩ := own_form P.r11 (by omega)
                    injection e11 with e11 el e11'
                    clear el
                    subst e11
                    obtain ⟨g12, c12', e12⟩ := own_form P.r12 (by omega)
                    injection e12 with e12 el e12'
                    clear el
                    subst e12
                    clear e11' e12'
                    have p11 := P.r11
                    have p12 := P.r12
                    rw [HKL.out] at p11 p12
                    replace p11 := p11.cellAt j (by omega)
                    replace p12 := p12.cellAt j (by omega)
                    rw [List.getElem?_map, hq] at p11 p12
                    obtain ⟨Aq, cq, eq⟩ := own_sl htd
                    simp only [Option.map_some, eq] at p11 p12
                    rw [eq] at htd
                    have hlen : ((all.drop q.b).take q.t).length = q.t := by rw [List.length_take, List.length_drop]; omega
                    have p11' := After.cell p11
                    have p12' := After.cell p12
                    have d1 : decide (all.length < q.b) = false := decide_eq_false (by omega)
                    have x1 : (q.b : Int) ≤ all.length := by omega
                    rcases A7 with _ | ad7
                    · obtain rfl : all = [] := List.eq_nil_of_length_eq_zero (by
                        rcases P.al.2 with ⟨e, h0⟩ | ⟨g, cap, cur, e, _⟩
                        · exact h0
                        · cases e)
                      obtain ⟨hq0, ht0⟩ : q.b = 0 ∧ q.t = 0 := by simp at htl; omega
                      have H19 : Hid (∀ p : After wr, Calls Try.prog 19 #[.slice Aq 0 cq, .slice none 0 0] p.W fun e w'' => e = .returned (.bool true) ∧ ∃ q : After wr, w'' = q.W) := Lib.hid (Calls.after fun W _ => same_eq Aq none cq 0 [] W (fun h => absurd rfl h) (fun h => absurd rfl h) (by simp))
                      have hc70 : c7 = 0 := by
                        rcases P.al.2 with ⟨e, _⟩ | ⟨g, cap, cur, e, _⟩
                        · cases e; rfl
                        · cases e
                      rw [ht0] at p11'
                      rw [hq0] at p12'
                      subst hc70
                      have hBW := Lib.hid HB.out
                      clear P htd htl hqm hqa hlen p11 p12 hq eq d1 x1 hq0 ht0
                      go_upto_region 47 with (fail)
                      refine wp_region_after (by kernel_rfl) (by kernel_rfl) ?_
                      repeat (go_big_quiet_step (first | (go_at_call 19; exact H19.out _)))
                      refine wpQuiet_nil ?_
                      intro _ hw'
                      obtain ⟨pw, rfl⟩ := hw'
                      go_wp2_with fail
                      go_roundg (gk - 1)
                      case measure => omega
                      case rel => exact ⟨j + 1, by go_num, by omega, by omega, Lib.hid (hBW.out.trans (pw.up.mono hBW.out.size))⟩
                    · obtain ⟨g7, hg7⟩ : ∃ g7, ad7 = ⟨g7, 0, none⟩ := by
                        rcases P.al.2 with ⟨e, h0⟩ | ⟨g, cap, cur, e, _⟩
                        · cases e
                        · cases e; exact ⟨_, rfl⟩
                      subst hg7
                      have hc7 : all.length ≤ c7 := by
                        rcases P.al.2 with ⟨e, h0⟩ | ⟨g, cap, cur, e, _, _, hc, _⟩
                        · cases e
                        · cases e; exact hc
                      have x2 : (all.length : Int) ≤ c7 := by omega
                      have HF := (own_lies P.al).part (Below.refl _ _) q.b q.t c7 hc7
                      rw [Nat.zero_add] at HF
                      generalize hZ : (if c7 = q.b then some (⟨g7, 0, none⟩ : Addr) else some ⟨g7, q.b * 3, none⟩) = Z at HF
                      have hsub : all.length - q.b = q.t := by omega
                      have H19 : Hid (∀ p : After wr, Calls Try.prog 19 #[.slice Aq q.t cq, .slice Z (all.length - q.b) (c7 - q.b)] p.W fun e w'' => e = .returned (.bool true) ∧ ∃ q : After wr, w'' = q.W) := Lib.hid (Calls.after fun W hW => by
                        have h := same_eq Aq Z cq (c7 - q.b) ((all.drop q.b).take q.t) W ((own_lies htd).on hW) (HF W hW) (by rw [hlen]; omega)
                        rw [hlen] at h
                        rwa [hsub])
                      have hBW := Lib.hid HB.out
                      clear P htd htl hqm hqa hlen HF hsub p11 p12 hq eq
                      go_upto_region 47 with (fail)
                      refine wp_region_after (by kernel_rfl) (by kernel_rfl) ?_
                      repeat (go_big_quiet_step (first | (go_at_call 19; exact H19.out _)))
                      refine wpQuiet_nil ?_
                      intro _ hw'
                      obtain ⟨pw, rfl⟩ := hw'
                      go_wp2_with fail
                      go_roundg (gk - 1)
                      case measure => omega
                      case rel => exact ⟨j + 1, by go_num, by omega, by omega, Lib.hid (hBW.out.trans (pw.up.mono hBW.out.size))⟩
                  · obtain rfl : KL = j := by omega
                    go_wp2_with fail
                    go_ret
                    exact ⟨rfl, HX.out.1.up.trans (HB.out.mono HX.out.1.up.size)⟩
end Go.Proofs.Ytlddeagolhdieaa
