/- The walk of HubPlays (under way). -/
import Derived.Test.YtlddeagolhdieaaHubPlayOps
import Derived.Test.YtlddeagolhdieaaQuietAfter
import Derived.Deep.DeepCutAuto
import Derived.Deep.CutBlock
import Derived.Deep.LoopGhost
import Derived.Deep.QuietTactic
import Derived.BigQuiet
namespace Go.Proofs.Ytlddeagolhdieaa
open Go.RowKit Go.MuLone Go.Conc

set_option maxRecDepth 100000
theorem op_cells {w : World} {g : Nat} {a0 a1 a2 a3 a4 : Value} {ty : TypeId} {fr : Nat × Nat} (h : w.heap[g]? = some (.cells #[a0, a1, a2, a3, a4] ty fr)) : w.cell? ⟨g, 0, none⟩ = some a0 ∧ w.cell? ⟨g, 1, none⟩ = some a1 ∧ w.cell? ⟨g, 2, none⟩ = some a2 ∧ w.cell? ⟨g, 3, none⟩ = some a3 ∧ w.cell? ⟨g, 4, none⟩ = some a4 := by
  refine ⟨?_, ?_, ?_, ?_, ?_⟩ <;> (rw [cell_of_row _ _ _ _ _ _ h]; rfl)
theorem below_drew1 (w : World) : Below w.heap.size w w.drew := ⟨rfl, rfl, rfl, Nat.le_refl _, fun _ _ => rfl⟩
set_option maxHeartbeats 8000000
theorem hubPlays_walk (A : Option Addr) (c : Nat) (ops : List Op5) (w : World) (hA : OpsIn w A ops) (hn : ops.length ≤ 9223372036854775807) :
    Calls Try.prog 3 #[.slice A ops.length c] w fun e w' => e = .returned (.bool true) ∧ Below w.heap.size w w' := by
  have HA := Lib.hid hA
  have HW := Lib.hid (works_any w)
  obtain ⟨n, hln⟩ : ∃ n, ops.length = n := ⟨_, rfl⟩
  have HN := Lib.hid hln
  have HNN := Lib.hid hn
  rw [hln] at hn ⊢
  clear hA hln hn
  go_enter Try.func3, Try.ntmps3
  go_wp2_with fail
  refine HW.out.mono ?_
  rintro e w0 ⟨rfl, hb0⟩
  have HB := Lib.hid hb0
  have HG : Hid (Calls Try.prog 9 #[.slice A n c] w0 fun e w' => w' = w0 ∧ (e = .returned (.bool true) ∨ e = .returned (.bool false) ∧ Small ops)) := Lib.hid (by
    have h := great_any A c ops w0 (fun k o hk => by obtain ⟨ad, e, h⟩ := HA.out k o hk; exact ⟨ad, e, h.on hb0⟩) HNN.out
    rwa [HN.out] at h)
  clear hb0 HW
  go_wp2_with fail
  refine HG.out.mono ?_
  rintro e w' ⟨rfl, (rfl | ⟨rfl, hsm⟩)⟩
  · go_wp2_with fail
    go_ret
    exact ⟨rfl, HB.out⟩
  have HS := Lib.hid hsm
  clear hsm HG
  go_wp2_with fail
  refine (new_any w').mono ?_
  rintro e w1 ⟨S, rfl, H, hS, hb⟩
  have HP := Lib.hid (Play.start HB.out H hb)
  have HE : Hid (∀ j, j < 8 → (S j).l = (D0 j).l ∧ (S j).cl = (D0 j).cl) := Lib.hid (fun j hj => ⟨(hS j hj).1, (hS j hj).2.1⟩)
  clear H hS hb
  have hgl := lt_of_block HP.out.box
  obtain ⟨hh, hhh⟩ : ∃ hh, w'.heap.size = hh := ⟨_, rfl⟩
  obtain ⟨g4, hg4⟩ : ∃ g4, w1.heap.size = g4 := ⟨_, rfl⟩
  clear HB
  go_wp2_with fail
  rw [hhh, hg4] at HP
  go_loopg [8, 5, 6, 7] (n + 1) (fun k v8 v5 v6 v7 wr => ∃ (i : Nat) (S : Nat → StR) (D : Nat → DT) (K : List Wt), v8 = .int .i64 i ∧ i ≤ n ∧ n + 1 - i ≤ k ∧ Hid (Play w wr hh hh g4 S D v5 v6 v7 K ∧ Agree S D ∧ K.length ≤ i ∧ ∀ q ∈ K, q.a = q.p))
  case atStart => exact ⟨0, S, D0, [], rfl, by omega, by omega, Lib.hid ⟨HP.out, HE.out, by simp, fun q hq => by simp at hq⟩⟩
  case round =>
    obtain ⟨i, S, D, K, rfl, hi, hik, HI⟩ := hrel
    clear HP HE hhh hg4 hgl
    by_cases hlt : i < n
    · have h1 : (i : Int) < n := by omega
      have h2 : (0 : Int) ≤ i := by omega
      obtain ⟨o, ho⟩ : ∃ o, ops[i]? = some o := ⟨_, List.getElem?_eq_getElem (by rw [HN.out]; exact hlt)⟩
      obtain ⟨ad, rfl, hat⟩ := HA.out i o ho
      have hsml := HS.out.2 i o ho
      have hi5 : i < 500 := by have := HS.out.1; rw [HN.out] at this; omega
      obtain ⟨kind, talk, who, num, A2, l, c2⟩ := o
      have hat' := hat.on HI.out.1.up
      have k0 : wr.cell? (ad.add (i * 5)) = some (.int .i64 kind) := hat'.c0
      have k1 : wr.cell? ⟨(ad.add (i * 5)).block, (ad.add (i * 5)).off + 1, none⟩ = some (.int .i64 talk) := hat'.c1
      have k2 : wr.cell? ⟨(ad.add (i * 5)).block, (ad.add (i * 5)).off + 2, none⟩ = some (.int .i64 who) := hat'.c2
      have k3 : wr.cell? ⟨(ad.add (i * 5)).block, (ad.add (i * 5)).off + 3, none⟩ = some (.int .i64 num) := hat'.c3
      have k4 : wr.cell? ⟨(ad.add (i * 5)).block, (ad.add (i * 5)).off + 4, none⟩ = some (.slice A2 l.length c2) := hat'.c4
      have b1 : -9223372036854775808 ≤ talk ∧ talk ≤ 9223372036854775807 := hat.b1
      have b2 : -9223372036854775808 ≤ who ∧ who ≤ 9223372036854775807 := hat.b2
      have b3 : -9223372036854775808 ≤ num ∧ num ≤ 9223372036854775807 := hat.b3
      have hsm : l.length ≤ 20000 := hsml
      have HIN : Hid (HIn w A2 l) := Lib.hid hat.hin
      clear hat hat' hsml
      go_upto_region 13 with (fail)
      have hbx := heap_alloc_new wr (.cells #[.int .i64 kind, .int .i64 talk, .int .i64 who, .int .i64 num, .slice A2 l.length c2] TOp)
      have hbb := below_new wr (.cells #[.int .i64 kind, .int .i64 talk, .int .i64 who, .int .i64 num, .slice A2 l.length c2] TOp)
      have HI2 : Hid (Play w (wr.alloc (.cells #[.int .i64 kind, .int .i64 talk, .int .i64 who, .int .i64 num, .slice A2 l.length c2] TOp)) hh hh g4 S D u5 u6 u7 K ∧ Agree S D ∧ K.length ≤ i ∧ ∀ q ∈ K, q.a = q.p) := Lib.hid ⟨HI.out.1.on hbb, HI.out.2⟩
      clear HI k0 k1 k2 k3 k4 hbb
      change Code.wp _ _ _ _ (wr.alloc (.cells #[.int .i64 kind, .int .i64 talk, .int .i64 who, .int .i64 num, .slice A2 l.length c2] TOp))
      generalize wr.alloc (.cells #[.int .i64 kind, .int .i64 talk, .int .i64 who, .int .i64 num, .slice A2 l.length c2] TOp) = wq at *
      generalize wr.heap.size = gb at *
      obtain ⟨k0, k1, k2, k3, k4⟩ := op_cells hbx
      have HO := Lib.hid hbx
      clear hbx
      go_upto_block 2 with (fail)
      go_cut [5, 6, 7] (fun v5 v6 v7 wx => ∃ (S : Nat → StR) (D : Nat → DT) (K : List Wt), Hid (Play w wx hh hh g4 S D v5 v6 v7 K ∧ Agree S D ∧ K.length ≤ i + 1 ∧ (∀ q ∈ K, q.a = q.p) ∧ wx.heap[gb]? = some (.cells #[.int .i64 kind, .int .i64 talk, .int .i64 who, .int .i64 num, .slice A2 l.length c2] TOp (0, 0))))
      case first =>
        by_cases e1 : kind = 1
        · as_aux_lemma =>
          subst e1
          go_wp2_with fail
          refine (play_add HI2.out.1 HI2.out.2.1 talk A2 l c2 HIN.out (by omega)).mono ?_
          rintro e w2 ⟨rfl, S2, P2, ha, hk⟩
          have HP2 := Lib.hid (And.intro P2 ha)
          have HO2 := Lib.hid (hk _ _ _ HO.out)
          clear P2 ha hk k0 k1 k2 k3 k4
          obtain ⟨_, k1, _, _, k4⟩ := op_cells HO2.out
          obtain ⟨r, hr⟩ : ∃ r, addE2 D talk l = r := ⟨_, rfl⟩
          have HRR := Lib.hid hr
          rw [hr]
          clear hr
          go_wp2_with (refine wpList_load_row rfl TRh (.tmp 4) rfl g4 rfl TRh _ (0, 0) _ HP2.out.1.box Try.underlying32 rfl (info_doc D) ?_)
          refine (radd_any D talk A2 l c2 w2 HP2.out.1.di (HIN.out.on HP2.out.1.up) (by omega)).mono ?_
          rintro e w3 ⟨D', rfl, hd, hb, hl, hA⟩
          rw [HRR.out]
          have hag : Agree S2 D' := fun j hj => ⟨by rw [(HP2.out.2 j hj).2, (hl j hj).2], by rw [(HP2.out.2 j hj).1, (hl j hj).1]⟩
          have HX := Lib.hid (And.intro hd (And.intro hb (And.intro hag hA)))
          clear hd hb hl hA hag k1 k4
          have HA3 : Hid (DocAfter w w2 w3 hh hh g4 S2 D D' u5 u6 u7 K) := Lib.hid (HP2.out.1.after HX.out.2.1 HX.out.1 HX.out.2.2.2)
          go_upto_region 17 with (refine wpList_store_row rfl TRh (.tmp 11) (.tmp 57) rfl w3.heap.size (docC D') rfl rfl TRh docZ HA3.out.new (info_doc D') (by rw [docC_size]; rfl) (docC_one D') ?_)
          go_wp2_with (first | (refine wpList_load_row rfl TRh (.tmp 11) rfl w3.heap.size rfl TRh _ (0, 0) _ HA3.out.c Try.underlying32 rfl (info_doc D') ?_) | (refine wpList_store_row rfl TRh (.tmp 4) (.tmp 59) rfl g4 (docC D') rfl rfl TRh (docC D) HA3.out.o (info_doc D') (by rw [docC_size]; rfl) (docC_one D') ?_))
          go_meet
          case rel => exact ⟨S2, D', K, Lib.hid ⟨HA3.out.P, HX.out.2.2.1, by have := HI2.out.2.2.1; omega, HI2.out.2.2.2, HA3.out.k _ _ _ HO2.out⟩⟩
        by_cases e2 : kind = 2
        · as_aux_lemma =>
          subst e2
          go_wp2_with fail
          refine (play_close HI2.out.1 HI2.out.2.1 talk).mono ?_
          rintro e w2 ⟨rfl, S2, P2, ha, hk⟩
          have HP2 := Lib.hid (And.intro P2 ha)
          have HO2 := Lib.hid (hk _ _ _ HO.out)
          clear P2 ha hk k0 k1 k2 k3 k4
          obtain ⟨_, k1, _, _, k4⟩ := op_cells HO2.out
          obtain ⟨r, hr⟩ : ∃ r, closeE D talk = r := ⟨_, rfl⟩
          have HRR := Lib.hid hr
          rw [hr]
          clear hr
          go_wp2_with (refine wpList_load_row rfl TRh (.tmp 4) rfl g4 rfl TRh _ (0, 0) _ HP2.out.1.box Try.underlying32 rfl (info_doc D) ?_)
          refine (rclose_any D talk w2).mono ?_
          rintro e w3 ⟨rfl, hb⟩
          rw [HRR.out]
          have hd := (HP2.out.1.di.on hb).close talk
          have hag : Agree S2 (closeD D talk) := HP2.out.2
          have hA : ∀ j, j < 8 → (closeD D talk j).A = (D j).A ∨ ∀ ad, (closeD D talk j).A = some ad → w2.heap.size ≤ ad.block := fun j _ => .inl (closeD_eq D talk j).2.1
          generalize closeD D talk = D' at hd hag hA ⊢
          have HX := Lib.hid (And.intro hd (And.intro hb (And.intro hag hA)))
          clear hd hb hA hag k1 k4
          have HA3 : Hid (DocAfter w w2 w3 hh hh g4 S2 D D' u5 u6 u7 K) := Lib.hid (HP2.out.1.after HX.out.2.1 HX.out.1 HX.out.2.2.2)
          go_upto_region 23 with (refine wpList_store_row rfl TRh (.tmp 14) (.tmp 74) rfl w3.heap.size (docC D') rfl rfl TRh docZ HA3.out.new (info_doc D') (by rw [docC_size]; rfl) (docC_one D') ?_)
          go_wp2_with (first | (refine wpList_load_row rfl TRh (.tmp 14) rfl w3.heap.size rfl TRh _ (0, 0) _ HA3.out.c Try.underlying32 rfl (info_doc D') ?_) | (refine wpList_store_row rfl TRh (.tmp 4) (.tmp 76) rfl g4 (docC D') rfl rfl TRh (docC D) HA3.out.o (info_doc D') (by rw [docC_size]; rfl) (docC_one D') ?_))
          go_meet
          case rel => exact ⟨S2, D', K, Lib.hid ⟨HA3.out.P, HX.out.2.2.1, by have := HI2.out.2.2.1; omega, HI2.out.2.2.2, HA3.out.k _ _ _ HO2.out⟩⟩
        by_cases e3 : kind = 3
        · as_aux_lemma =>
          subst e3
          go_wp2_with fail
          refine (play_watch HI2.out.1.hub HI2.out.2.1 talk num).mono ?_
          rintro e w2 (⟨hz, t, f, et, ht8, ef, hf, rfl, hw, hb⟩ | ⟨r, hr, hz, rfl, rfl⟩)
          · subst et ef
            have hgw : ∀ (j : Nat) q, K[j]? = some q → q.g ≠ wq.heap.size := fun j q hj => by have := lt_of_block (HI2.out.1.wat j q hj).2.1; omega
            have HP2 := Lib.hid (And.intro (HI2.out.1.on hb) (And.intro hw (And.intro hf (And.intro hgw (show hh ≤ wq.heap.size from HI2.out.1.ge.2.2)))))
            have HO2 := Lib.hid ((Keep.below hb) _ _ _ HO.out)
            clear hw hb hf hgw k0 k1 k2 k3 k4
            obtain ⟨_, k1, _, k3, _⟩ := op_cells HO2.out
            have HWZ := Lib.hid hz
            clear hz
            go_wp2_with (refine wpList_load_row rfl TRh (.tmp 4) rfl g4 rfl TRh _ (0, 0) _ HP2.out.1.box Try.underlying32 rfl (info_doc D) ?_)
            refine (rwatch_any D t f w2).mono ?_
            rintro e w3 ⟨rfl, hb3⟩
            rw [HWZ.out]
            generalize wq.heap.size = gw at *
            have HP3 := Lib.hid (And.intro (HP2.out.1.on hb3) (And.intro (HP2.out.2.1.on hb3) HP2.out.2.2))
            have HO3 := Lib.hid ((Keep.below hb3) _ _ _ HO2.out)
            clear hb3 k1 k3 HP2
            obtain ⟨_, k1, _, k3, _⟩ := op_cells HO3.out
            have hn3 := heap_alloc_new w3 (.cells #[.pointer (some ⟨gw, 0, none⟩)] TPw)
            have hB3 := below_new w3 (.cells #[.pointer (some ⟨gw, 0, none⟩)] TPw)
            have T3 := Lib.hid (HP3.out.1.three.on hB3)
            have hK5 : K.length ≤ 100000 := by have := HI2.out.2.2.1; omega
            have hle3 := HP3.out.1.ge.2.2
            go_upto_region 33 with (at_builtin; refine wpList_append_one rfl _ _ 33 TPw (.pointer none) 8 rfl Try.underlying33 info_pw rfl (by decide) hh (Nat.le_trans hle3 hB3.size) u5 K.length _ rfl T3.out.r5 w3.heap.size (.pointer (some ⟨gw, 0, none⟩)) (0, 0) rfl hn3 rfl hK5 ?_; intro v5' w4 o5 g5 hv5; have HV5 := Lib.hid (And.intro o5 (And.intro g5 hv5)); clear o5 g5 hv5)
            have T4 := Lib.hid (T3.out.a5 HV5.out.2.1 HV5.out.1)
            have F4 := Lib.hid ((Off.of_below (S := u5.ownBlock.toList) hB3).trans (off_grown HV5.out.2.1) (fun k hk => .inl hk))
            have HO4 := Lib.hid (Keep.off (L := u5.ownBlock.toList) F4.out (fun g hg => by
              obtain ⟨_, cur, e⟩ := rown_ty HP3.out.1.r5 (by simpa using hg)
              exact no_ty e (by decide)) _ _ _ HO3.out)
            clear k1 k3 hn3
            obtain ⟨_, k1, _, k3, _⟩ := op_cells HO4.out
            have hn4 := heap_alloc_new w4 (.cells #[.int .i64 t] 3)
            have hB4 := below_new w4 (.cells #[.int .i64 t] 3)
            have T5 := Lib.hid (T4.out.on hB4)
            have hle4 := Nat.le_trans hle3 F4.out.size
            go_upto_region 34 with (at_builtin; refine wpList_append_one rfl _ _ 34 3 (.int .i64 0) 8 rfl Try.underlying34 info_in rfl (by decide) hh (Nat.le_trans hle4 hB4.size) u6 K.length _ rfl T5.out.r6 w4.heap.size (.int .i64 t) (0, 0) rfl hn4 rfl hK5 ?_; intro v6' w5 o6 g6 hv6; have HV6 := Lib.hid (And.intro o6 (And.intro g6 hv6)); clear o6 g6 hv6)
            have T6 := Lib.hid (T5.out.a6 HV6.out.2.1 HV6.out.1 HV6.out.2.2)
            have F6 := Lib.hid ((Off.of_below (S := u6.ownBlock.toList) hB4).trans (off_grown HV6.out.2.1) (fun k hk => .inl hk))
            have HO5 := Lib.hid (Keep.off (L := u6.ownBlock.toList) F6.out (fun g hg => by
              obtain ⟨_, cur, e⟩ := rown_ty T4.out.r6 (by simpa using hg)
              exact no_ty e (by decide)) _ _ _ HO4.out)
            clear k1 k3 hn4
            obtain ⟨_, k1, _, k3, _⟩ := op_cells HO5.out
            have hn5 := heap_alloc_new w5 (.cells #[.int .i64 f] 3)
            have hB5 := below_new w5 (.cells #[.int .i64 f] 3)
            have T7 := Lib.hid (T6.out.on hB5)
            have hle5 := Nat.le_trans hle4 F6.out.size
            go_wp2_with (at_builtin; refine wpList_append_one rfl _ _ 34 3 (.int .i64 0) 8 rfl Try.underlying34 info_in rfl (by decide) hh (Nat.le_trans hle5 hB5.size) u7 K.length _ rfl T7.out.r7 w5.heap.size (.int .i64 f) (0, 0) rfl hn5 rfl hK5 ?_; intro v7' w6 o7 g7 hv7; have HV7 := Lib.hid (And.intro o7 (And.intro g7 hv7)); clear o7 g7 hv7)
            go_meet
            case rel =>
              have T8 := T7.out.a7 HV7.out.2.1 HV7.out.1 HV7.out.2.2
              have F8 := (Off.of_below (S := u7.ownBlock.toList) hB5).trans (off_grown HV7.out.2.1) (fun k hk => .inl hk)
              have HO6 := Keep.off (L := u7.ownBlock.toList) F8 (fun g hg => by
                obtain ⟨_, cur, e⟩ := rown_ty T6.out.r7 (by simpa using hg)
                exact no_ty e (by decide)) _ _ _ HO5.out
              have L1 : ∀ k ∈ u5.ownBlock.toList, k ∈ u5.ownBlock.toList ++ (u6.ownBlock.toList ++ u7.ownBlock.toList) := fun k hk => List.mem_append.2 (.inl hk)
              have FF := ((F4.out.mono L1).trans F6.out (fun k hk => .inl (List.mem_append.2 (.inr (List.mem_append.2 (.inl hk)))))).trans F8 (fun k hk => .inl (List.mem_append.2 (.inr (List.mem_append.2 (.inr hk)))))
              have PM := HP3.out.1.more (q := ⟨gw, t, f, f⟩) FF (fun g hg => by
                simp only [List.mem_append, Option.mem_toList] at hg
                rcases hg with e | e | e
                · exact .inl e
                · exact .inr (.inl e)
                · exact .inr (.inr e)) T8 ht8 HP3.out.2.1 HP3.out.2.2.1 HP3.out.2.2.2.2 HP3.out.2.2.2.1
              refine ⟨S, D, _, Lib.hid ⟨PM, HI2.out.2.1, by rw [List.length_append]; have := HI2.out.2.2.1; simp; omega, fun q hq => ?_, HO6⟩⟩
              rcases List.mem_append.1 hq with hq | hq
              · exact HI2.out.2.2.2 q hq
              · simp only [List.mem_singleton] at hq; subst hq; rfl
          · have HWZ := Lib.hid hz
            clear hz
            rcases hr with rfl | rfl
            all_goals (
              go_wp2_with (refine wpList_load_row rfl TRh (.tmp 4) rfl g4 rfl TRh _ (0, 0) _ HI2.out.1.box Try.underlying32 rfl (info_doc D) ?_)
              refine (rwatch_any D talk num w2).mono ?_
              rintro e w3 ⟨rfl, hb3⟩
              rw [HWZ.out]
              have HB3 := Lib.hid hb3
              clear hb3
              go_wp2_with fail
              go_meet
              case rel => exact ⟨S, D, K, Lib.hid ⟨HI2.out.1.on HB3.out, HI2.out.2.1, by have := HI2.out.2.2.1; omega, HI2.out.2.2.2, (Keep.below HB3.out) _ _ _ HO.out⟩⟩)
        by_cases e4 : kind = 4
        · as_aux_lemma =>
          subst e4
          by_cases hw0 : 0 ≤ who ∧ who < K.length
          · obtain ⟨x, rfl⟩ : ∃ x : Nat, who = x := ⟨who.toNat, by omega⟩
            have hxl : x < K.length := by omega
            have hx0 : (0 : Int) ≤ x := by omega
            have hx1 : (x : Int) < K.length := by omega
            obtain ⟨q, hq⟩ : ∃ q, K[x]? = some q := ⟨_, List.getElem?_eq_getElem hxl⟩
            obtain ⟨g5, c5, rfl⟩ := own_form HI2.out.1.r5 (by omega)
            obtain ⟨g6, c6, rfl⟩ := own_form HI2.out.1.r6 (by omega)
            obtain ⟨g7, c7, rfl⟩ := own_form HI2.out.1.r7 (by omega)
            have hqa : q.a = q.p := HI2.out.2.2.2 q (List.mem_of_getElem? hq)
            obtain ⟨ht8, hwb, hqp, hgq⟩ := HI2.out.1.wat x q hq
            have hlim := (HI2.out.1.hub.st q.t ht8).lim
            have hSD := HI2.out.2.1 q.t ht8
            obtain ⟨p5, p6, p7, f7⟩ := HI2.out.1.cells rfl hq
            have HN17 := Lib.hid (play_next (HI2.out.1.on (below_drew1 wq)) hq num b3)
            have hqn := nx_le (S q.t).l q.p num hqp
            obtain ⟨dd, hdd⟩ : ∃ dd, D q.t = dd := ⟨_, rfl⟩
            obtain ⟨dA, dl, dc, dcl⟩ := dd
            rw [hSD.1, hSD.2, hdd] at HN17
            rw [hSD.1, hdd] at hqn hqp hlim
            dsimp only at HN17 hqn hqp hlim
            have HR0 : Hid (∀ (W : World), DI W D → Calls Try.prog 18 #[.agg #[.slice dA dl.length dc, .bool dcl], .int .i64 q.p, .int .i64 num] W (RNextIs dA dl dcl q.p num W)) := Lib.hid (fun W hd => by
              have h1 := hd.lies q.t ht8
              have h2 := hd.nil q.t ht8
              have h3 := hd.flat q.t ht8
              have h4 := hd.room q.t ht8
              rw [hdd] at h1 h2 h3 h4
              exact rnext_any dA dl dc dcl q.p num W h1 (fun e => (h2 e).2) h3 h4 hlim hqp b3)
            obtain ⟨y, hy⟩ : ∃ y, nx dl q.p num = y := ⟨_, rfl⟩
            unfold RNextIs at HR0
            obtain ⟨bm, hbm⟩ : ∃ bm, (!dcl || decide (q.p + y < dl.length)) = bm := ⟨_, rfl⟩
            obtain ⟨pl, hpl⟩ : ∃ pl, (dl.drop q.p).take y = pl := ⟨_, rfl⟩
            rw [hy] at HN17 hqn HR0
            rw [hbm, hpl] at HN17 HR0
            have hpll : pl.length = y := by rw [← hpl, List.length_take, List.length_drop]; omega
            have HQ := Lib.hid (And.intro hq (And.intro hqa (And.intro hdd hpll)))
            have HKL := Lib.hid hxl
            have HBM := Lib.hid (And.intro hbm (And.intro hpl hy))
            clear hq hqa hwb hgq hxl f7 p6 p7 hSD hdd hbm hpl hpll hy
            obtain ⟨L, hL⟩ : ∃ L, K.length = L := ⟨_, rfl⟩
            have HL := Lib.hid hL
            rw [hL] at hx1 hw0 ⊢
            clear hL k0 k1 k4
            go_upto_region 37 with (fail)
            go_region_held3 (fun w' => w'.cell? ⟨g5, x, none⟩ = some (.pointer (some ⟨q.g, 0, none⟩)) ∧ w'.cell? ⟨gb, 2, none⟩ = some (.int .i64 x) ∧ w'.cell? ⟨gb, 3, none⟩ = some (.int .i64 num))
              (first | exact ⟨p5, k2, k3⟩ | exact ⟨q5, q2, q3⟩)
              (first | (go_at_call 17; refine HN17.out.mono ?_; rintro e w2 ⟨v', rfl, P2, hown, hk, ho⟩; have q5 : w2.cell? ⟨g5, x, none⟩ = some (.pointer (some ⟨q.g, 0, none⟩)) := next_cell5 P2 (List.length_set ..) (List.getElem?_set_self HKL.out) rfl; have hO2 := hk _ _ _ HO.out; obtain ⟨_, _, q2, q3, _⟩ := op_cells hO2; have HW2 := Lib.hid (And.intro P2 (And.intro hown (And.intro hO2 ho))); clear P2 hown hk ho hO2))
            clear p5 k2 k3 HN17
            obtain ⟨A', c', rfl⟩ := own_sl HW2.out.2.1
            have e20 : w2.cell? ⟨g4, q.t * 2, none⟩ = some (.slice dA dl.length dc) := by rw [cell_of_row _ _ _ _ _ _ HW2.out.1.box, (docC_at D ht8).1, HQ.out.2.2.1]
            have e21 : w2.cell? ⟨g4, q.t * 2 + 1, none⟩ = some (.bool dcl) := by rw [cell_of_row _ _ _ _ _ _ HW2.out.1.box, (docC_at D ht8).2, HQ.out.2.2.1]
            have hcc := HW2.out.1.cells (List.length_set ..).symm (List.getElem?_set_self HKL.out)
            have m6 : w2.cell? ⟨g6, x, none⟩ = some (.int .i64 q.t) := hcc.2.1
            have m7 : w2.cell? ⟨g7, x, none⟩ = some (.int .i64 q.p) := by have h := hcc.2.2.1; rwa [show ({ q with p := q.p + y } : Wt).a = q.p from HQ.out.2.1] at h
            clear hcc q5
            have ht0 : (0 : Int) ≤ q.t := by omega
            have ht9 : (q.t : Int) < 8 := by omega
            go_upto_region 38 with (fail)
            go_region_held3 (fun w' => w'.cell? ⟨g6, x, none⟩ = some (.int .i64 q.t) ∧ w'.cell? ⟨g7, x, none⟩ = some (.int .i64 q.p) ∧ w'.cell? ⟨g4, q.t * 2, none⟩ = some (.slice dA dl.length dc) ∧ w'.cell? ⟨g4, q.t * 2 + 1, none⟩ = some (.bool dcl) ∧ w'.cell? ⟨gb, 2, none⟩ = some (.int .i64 x) ∧ w'.cell? ⟨gb, 3, none⟩ = some (.int .i64 num))
              (first | exact ⟨m6, m7, e20, e21, q2, q3⟩ | exact ⟨n6, n7, e30, e31, r2, r3⟩)
              (first | (go_at_call 18; refine (HR0.out w2.drew (HW2.out.1.di.on (below_drew1 w2))).mono ?_; rintro e w3 ⟨A3, c3, rfl, hl3, hb3, hbl⟩; have hb30 : Below w2.heap.size w2 w3 := ⟨hb3.os, hb3.tape, hb3.output, hb3.size, hb3.block⟩; have n6 := (hb30.cell (World.block_lt_of_cell? w2 _ m6)).trans m6; have n7 := (hb30.cell (World.block_lt_of_cell? w2 _ m7)).trans m7; have e30 := (hb30.cell (World.block_lt_of_cell? w2 _ e20)).trans e20; have e31 := (hb30.cell (World.block_lt_of_cell? w2 _ e21)).trans e21; have r2 := (hb30.cell (World.block_lt_of_cell? w2 _ q2)).trans q2; have r3 := (hb30.cell (World.block_lt_of_cell? w2 _ q3)).trans q3; have HW3 := Lib.hid (And.intro hb30 (And.intro hl3 hbl)); clear hb3 hb30 hl3 hbl))
            clear m6 m7 e20 e21 q2 q3 n6 e30 e31
            have P3 := HW2.out.1.on HW3.out.1
            have f7 := (P3.cells (List.length_set ..).symm (List.getElem?_set_self HKL.out)).2.2.2
            have HP3 := Lib.hid (And.intro P3 (And.intro (owns_on HW2.out.2.1 HW3.out.1) ((Keep.below HW3.out.1) _ _ _ HW2.out.2.2.1)))
            clear P3
            go_upto_region 40 with (fail)
            have HX4 := Lib.hid (next_store HP3.out.1 (List.length_set ..).symm (List.getElem?_set_self HKL.out) (q.p + y) HP3.out.2.1 HP3.out.2.2 (fun hne => by
              obtain ⟨g, o, e, _⟩ := HW3.out.2.1 hne
              obtain ⟨ad0, e0, e1⟩ := HW3.out.2.2 _ e
              obtain ⟨cur, fr, e2⟩ := HP3.out.1.di.ty q.t ht8 ad0 (by rw [HQ.out.2.2.1]; exact e0)
              exact ⟨_, e, cur, fr, by rw [e1]; exact e2⟩) HW3.out.2.1)
            rw [List.set_set, Int.natCast_add] at HX4
            clear f7 r2 r3 n7
            have HSZ : Hid (wq.heap.size ≤ (w3.setCell ⟨g7, x, none⟩ (.int .i64 ((q.p : Int) + (y : Int)))).heap.size) := Lib.hid (Nat.le_trans HW2.out.2.2.2.size (Nat.le_trans HW3.out.1.size (off_set w3 g7 x _).size))
            change Code.wp _ _ _ _ (w3.setCell ⟨g7, x, none⟩ (.int .i64 ((q.p : Int) + (y : Int))))
            generalize w3.setCell ⟨g7, x, none⟩ (.int .i64 ((q.p : Int) + (y : Int))) = w4 at *
            have P4 := HX4.out.1
            have hcc := P4.cells (List.length_set ..).symm (List.getElem?_set_self HKL.out)
            obtain ⟨z, hz⟩ : ∃ z, q.p + y = z := ⟨_, rfl⟩
            have s5 : w4.cell? ⟨g5, x, none⟩ = some (.pointer (some ⟨q.g, 0, none⟩)) := hcc.1
            have s7 : w4.cell? ⟨g7, x, none⟩ = some (.int .i64 z) := by rw [← hz]; exact hcc.2.2.1
            obtain ⟨_, _, s2, s3, _⟩ := op_cells HX4.out.2.2.1
            have H19 : Hid (∀ p : After w4, Calls Try.prog 19 #[.slice A' y c', .slice A3 y c3] p.W fun e w'' => e = .returned (.bool true) ∧ ∃ q : After w4, w'' = q.W) := Lib.hid (Calls.after fun W hW => by
              have h := same_eq A' A3 c' c3 pl W ((own_lies (HX4.out.2.1)).on hW) (HX4.out.2.2.2.on hW) (by rw [HQ.out.2.2.2]; omega)
              rwa [HQ.out.2.2.2] at h)
            have H20 : Hid (∀ p : After w4, Calls Try.prog 20 #[.pointer (some ⟨q.g, 0, none⟩)] p.W fun e w'' => e = .returned (.int .i64 z) ∧ ∃ q : After w4, w'' = q.W) := Lib.hid (Calls.after fun W hW => by
              have hwa := (P4.wat x _ (List.getElem?_set_self HKL.out)).2.1.on hW
              rw [← hz]
              exact (at_any W hwa).mono (fun e w5 ⟨h1, h2⟩ => ⟨h1, by subst h2; exact Below.refl _ _⟩))
            have s5' := After.cell s5; have s7' := After.cell s7; have s2' := After.cell s2; have s3' := After.cell s3
            clear P4 hcc hz s5 s7 s2 s3
            refine wp_region_after (by kernel_rfl) (by kernel_rfl) ?_
            repeat (go_big_quiet_step (first | (go_at_call 19; exact H19.out _) | (go_at_call 20; exact H20.out _)))
            refine wpQuiet_nil ?_
            intro _ hw'
            obtain ⟨pw, rfl⟩ := hw'
            have HW4 : Hid (Below wq.heap.size w4 pw.W ∧ ∀ g', A' = some ⟨g', 0, none⟩ → wq.heap.size ≤ g' ∧ ∃ cur, pw.W.heap[g']? = some (.cells cur THp (0, 0)) ∧ y * 3 ≤ cur.size) := Lib.hid ⟨pw.up.mono HSZ.out, fun g' e => by
              obtain ⟨hb0, cur, hcur, hsz⟩ := own_block HX4.out.2.1 e
              exact ⟨hb0, cur, (pw.up.block _ (lt_of_block hcur)).trans hcur, hsz⟩⟩
            have HWU := Lib.hid pw.up
            generalize pw.W = w5 at *
            have HSZ4 : Hid (wq.heap.size ≤ w4.heap.size) := Lib.hid HSZ.out
            clear s5' s7' s2' s3' H19 H20 HSZ
            go_wp2_with fail
            go_loopg [23] (y + 1) (fun k v23 wx => ∃ j : Nat, v23 = .int .i64 j ∧ j ≤ y ∧ y + 1 - j ≤ k ∧ Hid (Below wq.heap.size w4 wx ∧ ∀ g', A' = some ⟨g', 0, none⟩ → wq.heap.size ≤ g' ∧ ∃ cur, wx.heap[g']? = some (.cells cur THp (0, 0)) ∧ y * 3 ≤ cur.size))
            case atStart => exact ⟨0, rfl, by omega, by omega, HW4⟩
            case round =>
              obtain ⟨j, rfl, hj, hjk, HB⟩ := hrel
              by_cases hjl : j < y
              · have hj1 : (j : Int) < y := by omega
                have hj0 : (0 : Int) ≤ j := by omega
                obtain ⟨g', c'', ee⟩ := own_form HX4.out.2.1 (by omega)
                injection ee with ee _ ec
                subst ee
                clear ec
                obtain ⟨hge, cur, hcur, hsz⟩ := HB.out.2 g' rfl
                have hv : ∀ m, m < cur.size → ∃ u, wr.cell? ⟨g', m, none⟩ = some u := fun m hm => ⟨_, (cell_of_row _ _ m _ _ _ hcur).trans (Array.getElem?_eq_getElem hm)⟩
                obtain ⟨u0, a0⟩ := hv (j * 3) (by omega)
                obtain ⟨u1, a1⟩ := hv (j * 3 + 1) (by omega)
                obtain ⟨u2, a2⟩ := hv (j * 3 + 2) (by omega)
                have f0 : wr.frozen? ⟨g', j * 3, none⟩ = false := frozen_of_row _ _ _ _ _ hcur
                have f1 : wr.frozen? ⟨g', j * 3 + 1, none⟩ = false := frozen_of_row _ _ _ _ _ hcur
                have f2 : wr.frozen? ⟨g', j * 3 + 2, none⟩ = false := frozen_of_row _ _ _ _ _ hcur
                clear hcur hsz hge hv
                go_wp2_with fail
                go_roundg (gk - 1)
                case measure => omega
                case rel => exact ⟨j + 1, by go_num, by omega, by omega, Lib.hid (three_set HB.out j _ _ _ (Nat.le_trans HSZ4.out HB.out.1.size))⟩
              · obtain rfl : j = y := by omega
                go_wp2_with fail
                go_meet
                case rel =>
                  have PF := HI2.out.1.past HX4.out.1 (fun k q' hk => by
                    rcases set_get hk with ⟨rfl, rfl, _⟩ | ⟨_, hk⟩
                    · exact ⟨q, HQ.out.1, rfl⟩
                    · exact ⟨q', hk, rfl⟩) HB.out.1
                  rw [HL.out] at PF
                  refine ⟨S, D, _, Lib.hid ⟨PF, HI2.out.2.1, Nat.le_trans (Nat.le_of_eq (List.length_set ..)) (Nat.le_succ_of_le HI2.out.2.2.1), fun r hr => ?_, (HB.out.1.block gb (lt_of_block HO.out)).trans HX4.out.2.2.1⟩⟩
                  · rcases List.mem_or_eq_of_mem_set hr with hr | rfl
                    · exact HI2.out.2.2.2 r hr
                    · rfl
          · obtain ⟨A5, c5, rfl⟩ := own_sl HI2.out.1.r5
            have HFIN : Hid (∃ (i' : Nat) (S : Nat → StR) (D : Nat → DT) (K' : List Wt), (Value.int .i64 ((i : Int) + 1) = .int .i64 i') ∧ i' ≤ n ∧ n + 1 - i' ≤ gk - 1 ∧ Hid (Play w wq hh hh g4 S D (.slice A5 K.length c5) u6 u7 K' ∧ Agree S D ∧ K'.length ≤ i' ∧ ∀ q ∈ K', q.a = q.p)) :=
              Lib.hid ⟨i + 1, S, D, K, by go_num, by omega, by omega, Lib.hid ⟨HI2.out.1, HI2.out.2.1, by have := HI2.out.2.2.1; omega, HI2.out.2.2.2⟩⟩
            by_cases hneg : who < 0
            · clear hw0
              go_wp2_with fail
              go_roundg (gk - 1)
              case measure => omega
              case rel => exact HFIN.out
            · have hge : (K.length : Int) ≤ who := by omega
              clear hw0
              go_wp2_with fail
              go_roundg (gk - 1)
              case measure => omega
              case rel => exact HFIN.out
        · go_wp2_with fail
          go_meet
          case rel => exact ⟨S, D, K, Lib.hid ⟨HI2.out.1, HI2.out.2.1, by have := HI2.out.2.2.1; omega, HI2.out.2.2.2, HO.out⟩⟩
      case rest =>
        as_aux_lemma =>
        obtain ⟨S2, D2, K2, HR⟩ := hcut
        clear k0 k1 k2 k3 k4
        obtain ⟨_, k1, _, _, _⟩ := op_cells HR.out.2.2.2.2
        have HFIN : Hid (∀ m, ∃ (i' : Nat) (S : Nat → StR) (D : Nat → DT) (K : List Wt), (Value.int .i64 ((i : Int) + 1) = .int .i64 i') ∧ i' ≤ n ∧ n + 1 - i' ≤ gk - 1 ∧ Hid (Play w (wc.drewN m) hh hh g4 S D u5 u6 u7 K ∧ Agree S D ∧ K.length ≤ i' ∧ ∀ q ∈ K, q.a = q.p)) :=
          Lib.hid (fun m => ⟨i + 1, S2, D2, K2, by go_num, by omega, by omega, Lib.hid ⟨HR.out.1.on (below_drewN wc m), HR.out.2.1, HR.out.2.2.1, HR.out.2.2.2.1⟩⟩)
        go_upto_region 46 with (fail)
        by_cases ht : 0 ≤ talk ∧ talk < 8
        · obtain ⟨t, rfl⟩ : ∃ t : Nat, talk = t := ⟨talk.toNat, by omega⟩
          have ht8 : t < 8 := by omega
          have hb0 : (0 : Int) ≤ t := by omega
          have hb1 : (t : Int) < 8 := by omega
          have kd : wc.cell? ⟨g4, t * 2, none⟩ = some (.slice (D2 t).A (D2 t).l.length (D2 t).c) := by rw [cell_of_row _ _ (t * 2) _ _ _ HR.out.1.box]; exact (docC_at D2 ht8).1
          have H22 : Hid (∀ m, Calls Try.prog 22 #[.pointer (some ⟨hh, 0, none⟩), .int .i64 t] (wc.drewN m) fun e w' => e = .returned (.int .i64 (D2 t).l.length) ∧ w' = wc.drewN m) := Lib.hid (fun m => by
            have h := hlen_any t (wc.drewN m) (HR.out.1.hub.on (below_drewN wc m)) ht8
            rwa [(HR.out.2.1 t ht8).1] at h)
          go_quiet (first | (go_at_call 21; exact Calls.quiet_of_same (in_yes t _ hb0 hb1)) | (go_at_call 22; exact Calls.quiet_of_same (H22.out _)))
          go_wp2_with fail
          go_roundg (gk - 1)
          case measure => omega
          case rel => exact HFIN.out _
        · have HT : Hid (talk < 0 ∨ 8 ≤ talk) := Lib.hid (by omega)
          clear ht
          go_quiet (first | (go_at_call 21; exact Calls.quiet_of_same (in_no talk _ HT.out)))
          go_wp2_with fail
          go_roundg (gk - 1)
          case measure => omega
          case rel => exact HFIN.out _
    · obtain rfl : i = n := by omega
      go_wp2_with fail
      go_ret
      exact ⟨rfl, HI.out.1.up⟩
end Go.Proofs.Ytlddeagolhdieaa
