/- match.Matcher.Feed. -/
import Derived.Test.YtfhggnbnbopkkaaDoorMatFeedT
import Derived.StillTailTactics
import Derived.BigQuiet
namespace Go.Proofs.YtfhggnbnbopkkaaDoor
open Go.RowKit PM

set_option maxRecDepth 100000
theorem info_by : (Tryd.prog.info? TU8).map (fun i => (i.zero, i.size, i.bytes)) = some (some (.int .u8 0), 1, 1) := by kernel_rfl
set_option maxHeartbeats 8000000 in
theorem feed_any (x : Mx) (arms : List Arm) (cur : List UInt8) (R : List Rw) (bv : Value) (s : ByteArray) (w : World) (hm : MaIs w x arms cur cur R bv) (hl : cur.length ≤ 256) (hs : s.size ≤ 1000000) :
    Calls Tryd.prog 21 #[.pointer (some ⟨x.mb, 0, none⟩), .string s] w (FeedIs x arms cur R bv s.data.toList w) := by
  have HS0 : Hid (FeedS w (w.alloc (.cells (hitC 0 0 0) THit)) x arms cur R bv s.data.toList 0 cur R bv) := Lib.hid ⟨hm.on (below_new w _), TurnsP.of_below (below_new w _), fun k hk _ => hk, heap_alloc_new w _, rfl, hl⟩
  clear hm
  have hz := zHit_run
  go_enter Tryd.func21, Tryd.ntmps21
  go_upto_region 4 with (fail)
  change Code.wp _ _ _ _ (w.alloc (.cells (hitC 0 0 0) THit))
  generalize w.alloc (.cells (hitC 0 0 0) THit) = W0 at *
  obtain ⟨BX, hBX⟩ : ∃ BX, w.heap.size = BX := ⟨_, rfl⟩
  have HBX := Lib.hid hBX
  rw [hBX]
  clear hBX
  go_loopg [20] (s.size + 1) (fun k v20 wr => ∃ (i : Nat) (kk : List UInt8) (R' : List Rw) (bv' : Value), v20 = .int .i64 i ∧ i ≤ s.size ∧ s.size + 1 - i ≤ k ∧ Hid (FeedS w wr x arms cur R bv s.data.toList i kk R' bv'))
  case atStart => exact ⟨0, cur, R, bv, rfl, by omega, by omega, HS0⟩
  case round =>
    clear HS0 W0
    obtain ⟨i, kk, R1, bv1, rfl, hi, hik, HX⟩ := hrel
    have hi0 : (0 : Int) ≤ i := by omega
    by_cases hlt : i < s.size
    · have hlt1 : (i : Int) < s.size := by omega
      have hi2 : (i : Int) ≤ 1000000 := by omega
      obtain ⟨A, n, cp, hbv, hn⟩ : ∃ A n cp, bv1 = .slice A n cp ∧ n = kk.length := by
        rcases own_slice HX.out.ma.buf with ⟨h1, h2⟩ | ⟨g, cap, cs, h1, _⟩
        · exact ⟨_, _, _, h1, h2.symm⟩
        · exact ⟨_, _, _, h1, rfl⟩
      have HBV := Lib.hid (And.intro hbv hn)
      have k2 : wr.cell? ⟨x.mb, 2, none⟩ = some (.slice A n cp) := by rw [← hbv]; exact HX.out.ma.cells.2.2.1
      have hnl : n ≤ 256 := by rw [hn]; exact HX.out.len
      clear hbv hn
      obtain ⟨g0, hg0⟩ : ∃ g0, g0 = gk := ⟨_, rfl⟩
      subst hg0
      go_upto_if 29 with fail
      go_cut [8] (fun v8 wx => ∃ (cu : List UInt8) (neg : Nat → Bool) (R2 : List Rw) (bv2 : Value), v8 = .int .i64 cu.length ∧ Hid (FeedC w wx x arms R bv kk s[i] cu neg R2 bv2))
      case first =>
        by_cases hfull : n = 256
        · subst hfull
          obtain ⟨g, cs, hA, hcp, hcs, hcz⟩ : ∃ g cs, A = some ⟨g, 0, none⟩ ∧ wr.heap[g]? = some (.cells cs TU8 (0, 0)) ∧ 256 ≤ cp ∧ cs.size = cp := by
            rcases own_slice HX.out.ma.buf with ⟨h1, h2⟩ | ⟨g, cap, cs, h1, h2, _, h3, h4⟩
            · have := HBV.out.2; omega
            · rw [HBV.out.1, ← HBV.out.2] at h1
              cases h1
              exact ⟨g, cs, rfl, h4, by have := HBV.out.2; omega, by omega⟩
          subst hA
          obtain ⟨d, rest, hkk⟩ : ∃ d rest, kk = d :: rest := by
            cases kk with
            | nil => have := HBV.out.2; simp at this
            | cons d rest => exact ⟨d, rest, rfl⟩
          subst hkk
          have hrl : rest.length = 255 := by have := HBV.out.2; simp at this; omega
          have HG := Lib.hid (And.intro hcp (And.intro hcz hrl))
          have hbl : (bytesC rest).length = 255 := by rw [bytesC_len]; exact hrl
          have hgl := lt_of_block hcp
          have hc1 : ¬ cp = 1 := by omega
          have HMM := HX.out.ma
          rw [HBV.out.1] at HMM
          have HM := Lib.hid HMM
          clear HMM hcp hrl
          go_upto_region 8 with (fail)
          go_still_tail 9, (by kernel_rfl)
          change wpList _ _ _ _ _ wr.drew
          refine wpList_copy_own rfl (.tmp 33) (.tmp 38) 76 76 rfl TU8 Tryd.underlying76 (by kernel_rfl) g 0 256 cp ⟨g, 1, none⟩ 255 (cp - 1) rfl rfl cs TU8 HG.out.1 (bytesC rest) (by rw [hbl]; rfl) (fun j v hv => ?_) (by omega) (fun v hv => ?_) ?_
          · have h1 := HM.out.buf.cells (g := g) rfl (j + 1) v (by simpa [bytesC] using hv)
            rw [Addr.add_lit, Nat.zero_add] at h1
            rw [Addr.add_lit, Nat.add_comm]
            exact h1
          · obtain ⟨u, _, rfl⟩ := List.mem_map.1 hv
            rfl
          obtain ⟨W2, hW2⟩ : ∃ W2, W2 = wr.drew.setRow g (cs.toList.take 0 ++ (bytesC rest ++ cs.toList.drop (0 + (bytesC rest).length))).toArray := ⟨_, rfl⟩
          rw [← hW2]
          have HW2 := Lib.hid hW2
          have hrow2 := setRow_heap wr.drew g _ ((cs.toList.take 0 ++ (bytesC rest ++ cs.toList.drop (0 + (bytesC rest).length))).toArray) TU8 (0, 0) HG.out.1
          rw [← hW2] at hrow2
          have e2 : W2.cell? ⟨x.mb, 2, none⟩ = some (.slice (some ⟨g, 0, none⟩) 256 cp) := by
            rw [hW2]
            exact (World.cell?_of_block (a := ⟨x.mb, 2, none⟩) (setRow_other wr.drew g x.mb _ (ty_ne HM.out.blk HG.out.1 (by decide)))).trans k2
          have e3 : ∃ u, W2.cell? ⟨g, 255, none⟩ = some u := ⟨_, by
            rw [cell_of_row _ _ _ _ _ _ hrow2]
            exact Array.getElem?_eq_getElem (by simp [bytesC_len, HG.out.2.2]; have := HG.out.2.1; omega)⟩
          obtain ⟨u3, e3⟩ := e3
          have e4 : W2.frozen? ⟨g, 255, none⟩ = false := frozen_of_row _ _ _ _ _ hrow2
          clear hW2 hrow2 hbl hgl k2
          simp only [Act.put, List.setIfInBounds_toArray, List.set_cons_zero, List.set_cons_succ]
          have hw5 : IntKind.i64.wrap 255 = 255 := by decide
          go_upto_region 9 with (fail)
          go_still_tail 10, (by kernel_rfl)
          change wpList _ _ _ _ _ W2.drew
          have e3' : W2.drew.cell? ⟨g, 255, none⟩ = some u3 := e3
          have e4' : W2.drew.frozen? ⟨g, 255, none⟩ = false := e4
          clear e3 e4
          obtain ⟨W4, hW4⟩ : ∃ W4, W4 = W2.drew.setCell ⟨g, 255, none⟩ (.int .u8 s[i].toNat) := ⟨_, rfl⟩
          have HW4 : Hid (MaIs W4 x arms (rest ++ [s[i]]) (d :: rest) R1 (.slice (some ⟨g, 0, none⟩) 256 cp) ∧ TurnsP (fun j => (Value.slice (some ⟨g, 0, none⟩) 256 cp).ownBlock = some j) wr W4) := Lib.hid (full_buf HM.out rfl HG.out.2.2 HG.out.1 (by rw [hW4, HW2.out]))
          go_upto_region 10 with (fail)
          change Code.wp _ _ _ _ (W2.drew.setCell ⟨g, 255, none⟩ (.int .u8 s[i].toNat))
          rw [← hW4]
          clear hW4 e3' e4' e2 HW2 W2
          have d1 := HW4.out.1.cells.2.1
          go_upto_region 11 with (fail)
          go_loopg [55] (arms.length + 1) (fun k v55 wq => ∃ j : Nat, v55 = .int .i64 j ∧ j ≤ arms.length ∧ arms.length + 1 - j ≤ k ∧ Hid (DecS W4 wq R1 j 0))
          case atStart => exact ⟨0, rfl, by omega, by omega, Lib.hid (DecS.start HW4.out.1)⟩
          case round =>
            clear d1
            obtain ⟨j, rfl, hj, hjk, HD⟩ := hrel
            have hj0 : (0 : Int) ≤ j := by omega
            have hRl := HW4.out.1.trks.len
            by_cases hjl : j < arms.length
            · have hjl1 : (j : Int) < arms.length := by omega
              obtain ⟨q, hq⟩ : ∃ q, R1[j]? = some q := ⟨_, List.getElem?_eq_getElem (by rw [hRl]; exact hjl)⟩
              obtain ⟨q0, A2, cp2, hqv, hqg⟩ := HD.out.cell HW4.out.1 hq
              obtain ⟨L, hL⟩ : ∃ L, q.l.length = L := ⟨_, rfl⟩
              have hLb : L ≤ 257 := by
                obtain ⟨a, ha⟩ : ∃ a, arms[j]? = some a := ⟨_, List.getElem?_eq_getElem hjl⟩
                have := (HW4.out.1.trks.at' j a q ha hq).trk.short
                rw [hL, List.length_cons, HG.out.2.2] at this
                omega
              rw [hqv, hL] at q0
              have HQ := Lib.hid (And.intro hq (And.intro hqv (And.intro hqg hL)))
              clear hq hqv hqg hL hRl
              obtain ⟨g1, hg1⟩ : ∃ g1, g1 = gk := ⟨_, rfl⟩
              subst hg1
              have h8 : arms.length ≤ 8 := HW4.out.1.few
              go_upto_region 14 with (fail)
              go_loopg [61] (L + 1) (fun k v61 wq => ∃ m : Nat, v61 = .int .i64 m ∧ m ≤ L ∧ L + 1 - m ≤ k ∧ Hid (DecS W4 wq R1 j m))
              case atStart => exact ⟨0, rfl, by omega, by omega, HD⟩
              case round =>
                clear HD q0
                obtain ⟨m, rfl, hm, hmk, HE⟩ := hrel
                have hm0 : (0 : Int) ≤ m := by omega
                by_cases hml : m < L
                · have hml1 : (m : Int) < L := by omega
                  obtain ⟨y, hy⟩ : ∃ y, q.l[m]? = some y := ⟨_, List.getElem?_eq_getElem (by rw [HQ.out.2.2.2]; exact hml)⟩
                  obtain ⟨g2, hA2⟩ := HQ.out.2.2.1 (by rw [HQ.out.2.2.2]; omega)
                  subst hA2
                  obtain ⟨e0, e1, HE2⟩ := HE.out.dec HW4.out.1 HQ.out.1 HQ.out.2.1 hy
                  have hyb : 0 ≤ y.p ∧ y.p ≤ 1000 := by
                    obtain ⟨a, ha⟩ : ∃ a, arms[j]? = some a := ⟨_, List.getElem?_eq_getElem hjl⟩
                    rcases (HW4.out.1.trks.at' j a q ha HQ.out.1).trk.place (List.mem_of_getElem? hy) with ⟨_, h⟩ | ⟨p, h1, h2⟩
                    · cases h
                    · rw [h1]
                      rw [List.length_cons, HG.out.2.2] at h2
                      omega
                  have HE3 := Lib.hid HE2
                  clear HE2 hy HE
                  obtain ⟨yp, hyp⟩ : ∃ yp, y.p = yp := ⟨_, rfl⟩
                  rw [hyp] at e0 HE3 hyb
                  obtain ⟨hy1, hy2⟩ := hyb
                  clear hyp
                  go_wp2_with fail
                  go_roundg (gk - 1)
                  case measure => omega
                  case rel => exact ⟨m + 1, by go_num, by omega, by omega, HE3⟩
                · obtain rfl : m = L := by omega
                  have HN : Hid (DecS W4 wr R1 (j + 1) 0) := Lib.hid (DecS.next (by rw [HQ.out.2.2.2]; exact HE.out) HQ.out.1)
                  clear HE
                  go_wp2_with fail
                  go_roundg (g1 - 1)
                  case measure => omega
                  case rel => exact ⟨j + 1, by go_num, by omega, by omega, HN⟩
            · obtain rfl : j = arms.length := by omega
              have HFC : Hid (FeedC w wr x arms R bv (d :: rest) s[i] rest (negOf arms (d :: rest)) (R1.map decR) (.slice (some ⟨g, 0, none⟩) 256 cp)) := Lib.hid (by
                have hx := HX.out
                rw [HBV.out.1] at hx
                exact hx.shift HG.out.2.2 HW4.out.1 HW4.out.2 (by rw [hRl]; exact HD.out))
              have hr255 := HG.out.2.2
              clear HD HW4 HX hRl
              go_wp2_with fail
              go_meet
              case rel => exact ⟨rest, _, _, _, by rw [hr255]; rfl, HFC⟩
        · have hfull1 : ¬ (n : Int) = 256 := by omega
          have HMM := HX.out.ma
          rw [HBV.out.1] at HMM
          have HM := Lib.hid HMM
          clear HMM
          go_upto_region 20 with (fail)
          have hn3 := heap_alloc_new wr.drew (.cells #[.int .u8 s[i].toNat] TU8)
          have HOW : Hid ((wr.drew.alloc (.cells #[.int .u8 s[i].toNat] TU8)).ownsRow 1 TU8 1 (.slice A n cp) n (bytesC kk)) := Lib.hid (by
            have := HM.out.buf
            rw [← HBV.out.2] at this
            exact own_keep this fun g hg => heap_alloc_old wr.drew _ (this.lt g hg).2)
          have HM3 : Hid (∀ v3, (wr.drew.alloc (.cells #[.int .u8 s[i].toNat] TU8)).grownBy v3 (Value.slice A n cp).ownBlock → v3.cell? ⟨x.mb, 2, none⟩ = some (.slice A n cp) ∧ ∀ j, v3.frozen? ⟨x.mb, j, none⟩ = false) := Lib.hid fun v3 hg => by
            have hne : some x.mb ≠ (Value.slice A n cp).ownBlock := fun e => by
              obtain ⟨cs, h1⟩ := own_typed HM.out.buf e.symm
              exact ty_ne h1 HM.out.blk (by decide) rfl
            have hl := lt_of_block HM.out.blk
            have h2 := (hg.block x.mb (by rw [World.size_alloc]; exact Nat.lt_succ_of_lt hl) hne).trans ((heap_alloc_old wr.drew (.cells #[.int .u8 s[i].toNat] TU8) hl).trans HM.out.blk)
            exact ⟨by rw [cell_of_row _ _ _ _ _ _ h2]; rfl, fun j => frozen_of_row _ _ _ _ _ h2⟩
          obtain ⟨i0, hin, hz0, hz1, hz2⟩ := info_parts info_by
          have hbase : 1 ≤ (wr.drew.alloc (.cells #[.int .u8 s[i].toNat] TU8)).heap.size := by rw [World.size_alloc]; omega
          have j2 : wr.drew.cell? ⟨x.mb, 2, none⟩ = some (.slice A n cp) := k2
          have j3 : (wr.alloc (.cells #[.int .u8 s[i].toNat] TU8)).cell? ⟨x.mb, 2, none⟩ = some (.slice A n cp) := (World.cell?_of_block (a := ⟨x.mb, 2, none⟩) (heap_alloc_old wr _ (lt_of_block HM.out.blk))).trans k2
          go_region_law (refine step_append_lies _ rfl (.tmp 80) (.tmp 84) 76 rfl 1 TU8 i0 (.int .u8 0) 1 1 Tryd.underlying76 hin hz0 hz1 hz2 rfl (by decide) (.slice A n cp) n _ rfl HOW.out ⟨wr.drew.heap.size, 0, none⟩ 1 1 [.int .u8 s[i].toNat] rfl rfl (World.news_of_block hn3) (by simp [Value.oneCell']) (by decide) (by unfold maxLen; omega) (by omega) hbase _ rfl ?_; intro g cap w3 hown hgrow hat hlt3; obtain ⟨hm3, hf3⟩ := HM3.out w3 hgrow)
          all_goals (
            have HFC : Hid (FeedC w (w3.setCell ⟨x.mb, 2, none⟩ (.slice (some ⟨g, 0, none⟩) (n + 1) cap)) x arms R bv kk s[i] kk (fun _ => false) R1 (.slice (some ⟨g, 0, none⟩) (n + 1) cap)) := Lib.hid (by
              obtain ⟨h4, t4, hv⟩ := grow_buf HM.out HBV.out.2 _ hown hgrow hat
              have hx := HX.out
              rw [HBV.out.1] at hx
              exact hx.grow (by have := HBV.out.2; omega) h4 t4 hv)
            clear hown hgrow hat hlt3 hm3 hf3 hn3 HOW HM3 hin hz0 hz1 hz2 j2 j3 k2
            go_wp2_with fail
            go_meet
            case rel => exact ⟨kk, _, R1, _, by rw [HBV.out.2], HFC⟩)
      case rest =>
        obtain ⟨cu, neg, R2, bv2, rfl, HC⟩ := hcut
        have HST := Lib.hid HC.out.step
        have hcl : cu.length ≤ 255 := HC.out.len
        have hci : (cu.length : Int) ≤ 255 := by omega
        go_wp2_with fail
        refine HST.out.mono ?_
        rintro e w2 ⟨htp, hbx, R3, (⟨a, p, hh, rfl, hmb, hnt, hrw, hrl⟩ | ⟨hh, rfl, hma, hfr⟩)⟩
        · have HW2 := Lib.hid (And.intro htp (And.intro hbx (And.intro hh (And.intro hmb (And.intro hnt (And.intro hrw hrl))))))
          have m2 : w2.cell? ⟨x.mb, 2, none⟩ = some bv2 := by rw [cell_of_row _ _ _ _ _ _ hmb]; rfl
          have f2 : w2.frozen? ⟨x.mb, 2, none⟩ = false := frozen_of_row _ _ _ _ _ hmb
          have hpos : 0 < R3.length := by
            rw [hrl]
            have := (hitOf_lt hh).1
            rw [List.length_map] at this
            omega
          have hO : ∃ cs, w2.heap[x.O]? = some (.cells cs TTs (0, 0)) := by
            obtain ⟨cs, h1, _⟩ := own_blk hrw
            exact ⟨cs, h1⟩
          have hr3 : Rows (w2.setCell ⟨x.mb, 2, none⟩ (.slice none 0 0)) x R3 := own_keep hrw fun g hg => by
            obtain ⟨cs, h1⟩ := hO
            cases hg
            exact heap_setCell_other w2 ⟨x.mb, 2, none⟩ x.O _ (ty_ne h1 hmb (by decide))
          have hbl3 := heap_setCell_same w2 x.mb 2 _ _ (.slice none 0 0) hmb
          obtain ⟨w4, hcl, t4, r4⟩ := clear_rows hr3 hpos
          have hbx3 : (w2.setCell ⟨x.mb, 2, none⟩ (.slice none 0 0)).heap[BX]? = some (.cells (hitC 0 0 0) THit (0, 0)) := by
            rw [← HBX.out]
            exact (heap_setCell_other w2 ⟨x.mb, 2, none⟩ _ _ (ty_ne hbx hmb (by decide))).trans hbx
          have hbx4 : w4.heap[BX]? = some (.cells (hitC 0 0 0) THit (0, 0)) := by
            refine (t4.block BX (lt_of_block hbx3) (fun e => ?_)).trans hbx3
            obtain ⟨cs, h1⟩ := hO
            rw [← HBX.out] at e
            exact ty_ne hbx h1 (by decide) e
          have HD := Lib.hid (And.intro (hit_done hmb hnt hrw hrl HC.out.ma.few htp t4 r4) hbx4)
          rw [hrl] at hcl
          have m1 : (w2.setCell ⟨x.mb, 2, none⟩ (.slice none 0 0)).cell? ⟨x.mb, 1, none⟩ = some (.slice (some ⟨x.O, 0, none⟩) arms.length x.cO) := by rw [cell_of_row _ _ _ _ _ _ hbl3]; rfl
          obtain ⟨b0, b1, b2, bf⟩ := box_cells hbx4
          have HFI : Hid (feed (trees arms) cur s.data.toList = (i + 1, some (a, p, cu.length + 1), [])) := Lib.hid (by
            have htk : s.data.toList.take i ++ [s[i]] = s.data.toList.take (i + 1) := by rw [List.take_succ_eq_append_getElem (show i < s.data.toList.length from hlt)]; rfl
            have hsn := feed_snoc (trees arms) (s.data.toList.take i) cur s[i] (by rw [HX.out.fd])
            rw [htk, HX.out.fd] at hsn
            simp only at hsn
            rw [hh] at hsn
            simp only at hsn
            rw [List.length_take, Nat.min_eq_left (show i ≤ s.data.toList.length from Nat.le_of_lt hlt), ← HC.out.kp, List.length_append, List.length_singleton] at hsn
            have hst := feed_stop (trees arms) (s.data.toList.take (i + 1)) cur (s.data.toList.drop (i + 1)) (by rw [hsn]; exact fun e => by cases e)
            rw [List.take_append_drop, hsn] at hst
            exact hst)
          clear htp hbx hh hmb hnt hrw hrl hO hr3 hbl3 t4 r4 hbx3 hbx4 hpos HST HC HX HBV k2
          go_wp2_with fail
          have hi1 : (i : Int) + 1 = ((i + 1 : Nat) : Int) := by omega
          rw [hi1]
          refine bodyPost_ret (results_feed rfl rfl rfl (box_set HD.out.2 a p (cu.length + 1))) rfl ⟨by rw [HFI.out]; rfl, box_turns a p (cu.length + 1) HD.out.1.2.1 HBX.out, _, _, by rw [HFI.out]; exact HD.out.1.1.boxed HD.out.2 a p (cu.length + 1), fun k hk _ => HD.out.1.2.2 k hk⟩
        · have HX2 : Hid (FeedS w w2 x arms cur R bv s.data.toList (i + 1) (keep (kk ++ [s[i]])) R3 bv2) := Lib.hid (by
            refine ⟨hma, htp, hfr, hbx, ?_, keep_len _⟩
            have htk : s.data.toList.take i ++ [s[i]] = s.data.toList.take (i + 1) := by rw [List.take_succ_eq_append_getElem (show i < s.data.toList.length from hlt)]; rfl
            have hsn := feed_snoc (trees arms) (s.data.toList.take i) cur s[i] (by rw [HX.out.fd])
            rw [htk, HX.out.fd] at hsn
            simp only at hsn
            rw [hh] at hsn
            rw [hsn, List.length_take, Nat.min_eq_left (show i ≤ s.data.toList.length from Nat.le_of_lt hlt)])
          clear htp hbx hma hfr hh HST HC HX
          go_wp2_with fail
          go_roundg (g0 - 1)
          case measure => omega
          case rel => exact ⟨i + 1, _, R3, bv2, by go_num, by omega, by omega, HX2⟩
    · obtain rfl : i = s.size := by omega
      have HF : Hid (FeedIs x arms cur R bv s.data.toList w (.returned (.tuple #[.int .i64 s.size, .agg (hitC 0 0 0), .bool false])) wr) := Lib.hid (by
        have hfd := HX.out.fd
        rw [List.take_of_length_le (show s.data.toList.length ≤ s.size from Nat.le_refl _)] at hfd
        exact ⟨by rw [hfd]; rfl, HX.out.tp, R1, bv1, by rw [hfd]; exact HX.out.ma, HX.out.fr⟩)
      have hbb := HX.out.box
      rw [HBX.out] at hbb
      have HB := Lib.hid hbb
      obtain ⟨b0, b1, b2, bf⟩ := box_cells hbb
      clear HX hbb
      go_wp2_with fail
      refine bodyPost_ret (results_feed rfl rfl rfl (box_set HB.out 0 0 0)) rfl ⟨HF.out.1, box_turns 0 0 0 HF.out.2.1 HBX.out, ?_⟩
      obtain ⟨R', bv', h1, h2⟩ := HF.out.2.2
      exact ⟨R', bv', h1.boxed HB.out 0 0 0, h2⟩
end Go.Proofs.YtfhggnbnbopkkaaDoor
