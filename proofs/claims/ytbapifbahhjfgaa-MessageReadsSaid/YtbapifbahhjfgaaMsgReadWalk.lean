/- The document's Read. -/
import Derived.Test.YtbapifbahhjfgaaMsgRead
import Derived.Test.YtbapifbahhjfgaaMsgLoadRow
import Derived.Maps.AppendAt
import Derived.Deep.DeepCutAuto
namespace Go.Proofs.Ytbapifbahhjfgaa
open Go.RowKit

set_option maxRecDepth 100000
set_option maxHeartbeats 8000000
theorem below_drew (w : World) : Below w.heap.size w w.drew := ⟨rfl, rfl, rfl, Nat.le_refl _, fun _ _ => rfl⟩
theorem read_any (s : ByteArray) (w : World) (hs : s.size ≤ 16384) :
    Calls Try.prog 10 #[.string s] w fun e w' => ∃ A c, e = .returned (.tuple #[(readR s).1.val (.slice A (readR s).1.ents.length c), .int .i64 (readR s).2.1, .int .i64 (readR s).2.2]) ∧
      EArg w' w'.heap.size A (readR s).1.ents ∧ Below w.heap.size w w' := by
  have hs2 : s.size ≤ 4611686018427387904 := by omega
  obtain ⟨i0, hi0, hz0, hz1, hz2⟩ := info_ent
  go_enter Try.func10, Try.ntmps10
  go_wp2_with fail
  have H1 := Lib.hid (QS.start s w)
  change Calls _ _ _ (((w.alloc (.cells (zeroMsg.cells A0).toArray TM)).alloc (.cells #[.string s, .int .i64 0, .int .i64 0, .int .i64 0] TQ)).alloc (.cells (zeroMsg.cells A0).toArray TM)) _
  generalize ((w.alloc (.cells (zeroMsg.cells A0).toArray TM)).alloc (.cells #[.string s, .int .i64 0, .int .i64 0, .int .i64 0] TQ)).alloc (.cells (zeroMsg.cells A0).toArray TM) = w1 at *
  obtain ⟨g, hg⟩ : ∃ g, w.heap.size = g := ⟨_, rfl⟩
  obtain ⟨gr, hgr⟩ : ∃ gr, g + 1 = gr := ⟨_, rfl⟩
  obtain ⟨gm, hgm⟩ : ∃ gm, gr + 1 = gm := ⟨_, rfl⟩
  rw [hg, hgr, hgm] at H1
  rw [hg, hgr, hgm]
  have HGG : Hid (gr < gm ∧ g < gm) := Lib.hid ⟨by omega, by omega⟩
  clear hg hgr hgm
  have hl := num_lt' s.data.toList 1 (.ok 0)
  refine (refNum_any gr 1 s (.ok 0) w1 H1.out.rd hs2 (by omega)).mono ?_
  rintro e w2 ⟨rfl, hr, hgb⟩
  have H2 : Hid (QS w w2 g gr gm s zeroMsg A0 (st1 s.data.toList)) := Lib.hid (H1.out.read hr hgb)
  clear hr hgb H1
  obtain ⟨kd, hkd⟩ : ∃ kd, (WM.num s.data.toList 1 (.ok 0)).1 = kd := ⟨_, rfl⟩
  have HKD := Lib.hid hkd
  rw [hkd] at hl ⊢
  clear hkd
  have hc0 := H2.out.cell 0 _ rfl
  have hf0 := H2.out.frozen 0
  have hl2 : kd < 256 := hl
  clear hl
  go_upto_region 5 with (fail)
  have H3 := Lib.hid (H2.out.set (m' := { zeroMsg with kind := kd }) (A' := A0) 0 (.int .u8 (kd : Nat)) rfl)
  clear H2 hc0 hf0
  have hszw : w2.heap.size = (w2.setCell ⟨gm, 0, none⟩ (.int .u8 (kd : Nat))).heap.size := by simp
  generalize w2.setCell ⟨gm, 0, none⟩ (.int .u8 (kd : Nat)) = w3 at *
  have hgl := heap_alloc_new w3 (.cells (lst (fun _ => 0)) TL)
  have hbl := below_new w3 (.cells (lst (fun _ => 0)) TL)
  have H4 : Hid (QS w (w3.alloc (.cells (lst (fun _ => 0)) TL)) g gr gm s { zeroMsg with kind := kd } A0 (st1 s.data.toList) ∧ (w3.alloc (.cells (lst (fun _ => 0)) TL)).heap[w3.heap.size]? = some (.cells (lst (fun _ => 0)) TL (0, 0)) ∧ gr < w3.heap.size ∧ gm < w3.heap.size ∧ g < w3.heap.size ∧ w.heap.size ≤ w3.heap.size) :=
    Lib.hid ⟨H3.out.on hbl, hgl, H3.out.rd.lt, lt_of_block H3.out.msg, lt_of_block H3.out.box, H3.out.up.size⟩
  clear H3 hgl hbl
  change Code.wp _ _ _ _ (w3.alloc (.cells (lst (fun _ => 0)) TL))
  rw [hszw]
  clear hszw
  generalize w3.alloc (.cells (lst (fun _ => 0)) TL) = w4 at *
  generalize w3.heap.size = gl at *
  go_wp2_with fail
  go_loopg [8] (16) (fun k v8 wr => ∃ j : Nat, v8 = .int .i64 j ∧ j ≤ 15 ∧ 16 - j ≤ k ∧ Hid (QS w wr g gr gm s { zeroMsg with kind := kd } A0 (numsN s.data.toList j (st1 s.data.toList)).2 ∧ wr.heap[gl]? = some (.cells (lst (fun i => wholeN ((numsN s.data.toList j (st1 s.data.toList)).1 i))) TL (0, 0)) ∧ gr < gl ∧ gm < gl ∧ g < gl ∧ w.heap.size ≤ gl))
  case atStart => exact ⟨0, rfl, by omega, by omega, Lib.hid ⟨H4.out.1, H4.out.2.1, H4.out.2.2⟩⟩
  case round =>
    clear H4
    obtain ⟨j, rfl, hj, hjk, HX⟩ := hrel
    by_cases hlt : j < 15
    · have hlt1 : (j : Int) < 15 := by omega
      have hj0 : (0 : Int) ≤ j := by omega
      have hl8 := num_lt' s.data.toList 8 (numsN s.data.toList j (st1 s.data.toList)).2
      go_wp2_with fail
      refine (refNum_any gr 8 s _ wr HX.out.1.rd hs2 (by omega)).mono ?_
      rintro e w5 ⟨rfl, hr, hgb⟩
      have hglb := (hgb.block gl (lt_of_block HX.out.2.1) (fun e => by cases e; have := HX.out.2.2.1; omega)).trans HX.out.2.1
      have H5 := Lib.hid (And.intro (HX.out.1.read hr hgb) hglb)
      clear hr hgb hglb
      obtain ⟨x, hx⟩ : ∃ x, (WM.num s.data.toList 8 (numsN s.data.toList j (st1 s.data.toList)).2).1 = x := ⟨_, rfl⟩
      have HXX := Lib.hid hx
      rw [hx] at hl8 ⊢
      clear hx
      have hx8 : x < 18446744073709551616 := hl8
      clear hl8
      go_wp2_with fail
      refine (whole_any x w5 hx8).mono ?_
      rintro e w6 ⟨rfl, rfl⟩
      have c1 : w6.cell? ⟨gl, j, none⟩ = some (.int .i64 (wholeN ((numsN s.data.toList j (st1 s.data.toList)).1 j))) := by rw [cell_of_row _ _ _ _ _ _ H5.out.2]; exact lst_at _ j hlt
      have f1 : w6.frozen? ⟨gl, j, none⟩ = false := frozen_of_row _ _ _ _ _ H5.out.2
      obtain ⟨v, hv⟩ : ∃ v, wholeN x = v := ⟨_, rfl⟩
      have HV := Lib.hid hv
      rw [hv]
      clear hv hx8
      obtain ⟨v0, hv0⟩ : ∃ v0, wholeN ((numsN s.data.toList j (st1 s.data.toList)).1 j) = v0 := ⟨_, rfl⟩
      rw [hv0] at c1
      clear hv0
      go_wp2_with fail
      go_roundg (gk - 1)
      case measure => omega
      case rel =>
        have hgs : w6.grownBy (w6.setCell ⟨gl, j, none⟩ (.int .i64 v)) (some gl) := ⟨rfl, rfl, rfl, by simp, fun k _ hk => Below.heap_setCell _ _ _ _ (fun e => hk (by rw [e]))⟩
        have hq := H5.out.1
        refine ⟨j + 1, by go_num, by omega, by omega, Lib.hid ⟨⟨hq.box.grown hgs (fun e => by cases e; have := HX.out.2.2.2.2.1; omega), hq.msg.grown hgs (fun e => by cases e; have := HX.out.2.2.2.1; omega), hq.rd.grown hgs (fun e => by cases e; have := HX.out.2.2.1; omega), hq.up.grown hgs hq.up.size (fun k e => by cases e; exact HX.out.2.2.2.2.2), hq.d1, hq.d2, hq.d3, hq.b1, hq.b2, hq.b3⟩, ?_, HX.out.2.2⟩⟩
        rw [heap_setCell_same _ _ _ _ _ _ H5.out.2, lst_set _ j hlt]
        congr 2
        congr 1
        funext i
        simp only [numsN]
        split
        · rw [HXX.out, HV.out]
        · rfl
    · obtain rfl : j = 15 := by omega
      have hX : (numsN s.data.toList 15 (st1 s.data.toList)).2 = st2 s.data.toList := ((numsR_eq s.data.toList (st1 s.data.toList) 15).2).symm
      rw [hX] at HX
      clear hX
      obtain ⟨f, hf⟩ : ∃ f, (fun i => wholeN ((numsN s.data.toList 15 (st1 s.data.toList)).1 i)) = f := ⟨_, rfl⟩
      rw [hf] at HX
      have HF := Lib.hid hf
      clear hf
      go_upto_region 9 with (fail)
      have HLD : Hid (∀ cs k, k < 15 → (wr.drew.setRow gm cs).cell? ⟨gl, k, none⟩ = some (.int .i64 (f k))) := Lib.hid (fun cs k hk => by
        rw [cell_setRow_other _ _ _ _ (by show gl ≠ gm; have := HX.out.2.2.2.1; omega)]
        show wr.cell? ⟨gl, k, none⟩ = _
        rw [cell_of_row _ _ _ _ _ _ HX.out.2.1]; exact lst_at f k hk)
      refine wp_region_tab (gm := gm) (val := fun i => (#[.pointer (some ⟨gl, 0, none⟩), .int .i64 (f 0), .pointer (some ⟨gl, 1, none⟩), .int .i64 (f 1), .pointer (some ⟨gl, 2, none⟩), .int .i64 (f 2), .pointer (some ⟨gl, 3, none⟩), .int .i64 (f 3), .pointer (some ⟨gl, 4, none⟩), .int .i64 (f 4), .pointer (some ⟨gl, 5, none⟩), .int .i64 (f 5), .pointer (some ⟨gl, 6, none⟩), .int .i64 (f 6), .pointer (some ⟨gl, 7, none⟩), .int .i64 (f 7), .pointer (some ⟨gm, 1, none⟩), .int .i64 (f 0), .pointer (some ⟨gm, 2, none⟩), .int .i64 (f 1), .pointer (some ⟨gm, 3, none⟩), .int .i64 (f 2), .pointer (some ⟨gm, 4, none⟩), .int .i64 (f 3), .pointer (some ⟨gm, 5, none⟩), .int .i64 (f 4), .pointer (some ⟨gm, 6, none⟩), .int .i64 (f 5), .pointer (some ⟨gm, 7, none⟩), .int .i64 (f 6), .pointer (some ⟨gm, 10, none⟩), .int .i64 (f 7)] : Array Value).getD i undef) (cell := fun i => (#[none, none, none, none, none, none, none, none, none, none, none, none, none, none, none, none, none, some 1, none, some 2, none, some 3, none, some 4, none, some 5, none, some 6, none, some 7, none, some 10] : Array (Option Nat)).getD i none) (by kernel_rfl) (apart_of _ 139 22 rfl rfl (by kernel_rfl)) (by kernel_rfl) (guards_of (by kernel_rfl)) HX.out.1.msg ?_ ?_
      · as_aux_lemma =>
        intro i o listed a cs ho ht hdep
        have hi : i < 32 := (Array.getElem?_eq_some_iff.1 ho).1
        have e6 : a.tmps[6]? = some (.pointer (some ⟨gm, 0, none⟩)) := (ht.kept (by kernel_rfl)).trans rfl
        have e7 : a.tmps[7]? = some (.pointer (some ⟨gl, 0, none⟩)) := (ht.kept (by kernel_rfl)).trans rfl
        have hst : ∀ k, k < 22 → (∃ v, (wr.drew.setRow gm cs).cell? ⟨gm, k, none⟩ = some v) ∧ (wr.drew.setRow gm cs).frozen? ⟨gm, k, none⟩ = false := fun k hk => by
          have h1 := setRow_heap wr.drew gm _ cs TM (0, 0) HX.out.1.msg
          have h2 : cs.size = 22 := ht.cz
          exact ⟨⟨_, (cell_of_row _ _ _ _ _ _ h1).trans (Array.getElem?_eq_getElem (by omega))⟩, frozen_of_row _ _ _ _ _ h1⟩
        have hld := HLD.out cs
        generalize wr.drew.setRow gm cs = W at *
        clear HX HLD HF
        obtain rfl | rfl | rfl | rfl | rfl | rfl | rfl | rfl | rfl | rfl | rfl | rfl | rfl | rfl | rfl | rfl | rfl | rfl | rfl | rfl | rfl | rfl | rfl | rfl | rfl | rfl | rfl | rfl | rfl | rfl | rfl | rfl : i = 0 ∨ i = 1 ∨ i = 2 ∨ i = 3 ∨ i = 4 ∨ i = 5 ∨ i = 6 ∨ i = 7 ∨ i = 8 ∨ i = 9 ∨ i = 10 ∨ i = 11 ∨ i = 12 ∨ i = 13 ∨ i = 14 ∨ i = 15 ∨ i = 16 ∨ i = 17 ∨ i = 18 ∨ i = 19 ∨ i = 20 ∨ i = 21 ∨ i = 22 ∨ i = 23 ∨ i = 24 ∨ i = 25 ∨ i = 26 ∨ i = 27 ∨ i = 28 ∨ i = 29 ∨ i = 30 ∨ i = 31 := by omega
        · cases ho
          show (execOp a.eval _).run Try.prog W = .ok (.value (.pointer (some ⟨gl, 0, none⟩))) W
          simp [go_sem, e7]
        · cases ho
          have e30 : a.tmps[30]? = some (.pointer (some ⟨gl, 0, none⟩)) := ht.new 0 30 rfl (hdep ⟨0, .data⟩ (by simp) rfl)
          have c := hld 0 (by decide)
          show (execOp a.eval _).run Try.prog W = .ok (.value (.int .i64 (f 0))) W
          simp [go_sem, e30, c]
        · cases ho
          show (execOp a.eval _).run Try.prog W = .ok (.value (.pointer (some ⟨gl, 1, none⟩))) W
          simp [go_sem, e7]
        · cases ho
          have e32 : a.tmps[32]? = some (.pointer (some ⟨gl, 1, none⟩)) := ht.new 2 32 rfl (hdep ⟨2, .data⟩ (by simp) rfl)
          have c := hld 1 (by decide)
          show (execOp a.eval _).run Try.prog W = .ok (.value (.int .i64 (f 1))) W
          simp [go_sem, e32, c]
        · cases ho
          show (execOp a.eval _).run Try.prog W = .ok (.value (.pointer (some ⟨gl, 2, none⟩))) W
          simp [go_sem, e7]
        · cases ho
          have e34 : a.tmps[34]? = some (.pointer (some ⟨gl, 2, none⟩)) := ht.new 4 34 rfl (hdep ⟨4, .data⟩ (by simp) rfl)
          have c := hld 2 (by decide)
          show (execOp a.eval _).run Try.prog W = .ok (.value (.int .i64 (f 2))) W
          simp [go_sem, e34, c]
        · cases ho
          show (execOp a.eval _).run Try.prog W = .ok (.value (.pointer (some ⟨gl, 3, none⟩))) W
          simp [go_sem, e7]
        · cases ho
          have e36 : a.tmps[36]? = some (.pointer (some ⟨gl, 3, none⟩)) := ht.new 6 36 rfl (hdep ⟨6, .data⟩ (by simp) rfl)
          have c := hld 3 (by decide)
          show (execOp a.eval _).run Try.prog W = .ok (.value (.int .i64 (f 3))) W
          simp [go_sem, e36, c]
        · cases ho
          show (execOp a.eval _).run Try.prog W = .ok (.value (.pointer (some ⟨gl, 4, none⟩))) W
          simp [go_sem, e7]
        · cases ho
          have e38 : a.tmps[38]? = some (.pointer (some ⟨gl, 4, none⟩)) := ht.new 8 38 rfl (hdep ⟨8, .data⟩ (by simp) rfl)
          have c := hld 4 (by decide)
          show (execOp a.eval _).run Try.prog W = .ok (.value (.int .i64 (f 4))) W
          simp [go_sem, e38, c]
        · cases ho
          show (execOp a.eval _).run Try.prog W = .ok (.value (.pointer (some ⟨gl, 5, none⟩))) W
          simp [go_sem, e7]
        · cases ho
          have e40 : a.tmps[40]? = some (.pointer (some ⟨gl, 5, none⟩)) := ht.new 10 40 rfl (hdep ⟨10, .data⟩ (by simp) rfl)
          have c := hld 5 (by decide)
          show (execOp a.eval _).run Try.prog W = .ok (.value (.int .i64 (f 5))) W
          simp [go_sem, e40, c]
        · cases ho
          show (execOp a.eval _).run Try.prog W = .ok (.value (.pointer (some ⟨gl, 6, none⟩))) W
          simp [go_sem, e7]
        · cases ho
          have e42 : a.tmps[42]? = some (.pointer (some ⟨gl, 6, none⟩)) := ht.new 12 42 rfl (hdep ⟨12, .data⟩ (by simp) rfl)
          have c := hld 6 (by decide)
          show (execOp a.eval _).run Try.prog W = .ok (.value (.int .i64 (f 6))) W
          simp [go_sem, e42, c]
        · cases ho
          show (execOp a.eval _).run Try.prog W = .ok (.value (.pointer (some ⟨gl, 7, none⟩))) W
          simp [go_sem, e7]
        · cases ho
          have e44 : a.tmps[44]? = some (.pointer (some ⟨gl, 7, none⟩)) := ht.new 14 44 rfl (hdep ⟨14, .data⟩ (by simp) rfl)
          have c := hld 7 (by decide)
          show (execOp a.eval _).run Try.prog W = .ok (.value (.int .i64 (f 7))) W
          simp [go_sem, e44, c]
        · cases ho
          show (execOp a.eval _).run Try.prog W = .ok (.value (.pointer (some ⟨gm, 1, none⟩))) W
          simp [go_sem, e6]
        · cases ho
          have e46 : a.tmps[46]? = some (.pointer (some ⟨gm, 1, none⟩)) := ht.new 16 46 rfl (hdep ⟨16, .data⟩ (by simp) rfl)
          have e31 : a.tmps[31]? = some (.int .i64 (f 0)) := ht.new 1 31 rfl (hdep ⟨1, .data⟩ (by simp) rfl)
          obtain ⟨⟨v, c⟩, fz⟩ := hst 1 (by decide)
          show (execOp a.eval _).run Try.prog W = .ok .skip (W.setCell ⟨gm, 1, none⟩ (.int .i64 (f 0)))
          simp [go_sem, e46, e31, c, fz]
        · cases ho
          show (execOp a.eval _).run Try.prog W = .ok (.value (.pointer (some ⟨gm, 2, none⟩))) W
          simp [go_sem, e6]
        · cases ho
          have e47 : a.tmps[47]? = some (.pointer (some ⟨gm, 2, none⟩)) := ht.new 18 47 rfl (hdep ⟨18, .data⟩ (by simp) rfl)
          have e33 : a.tmps[33]? = some (.int .i64 (f 1)) := ht.new 3 33 rfl (hdep ⟨3, .data⟩ (by simp) rfl)
          obtain ⟨⟨v, c⟩, fz⟩ := hst 2 (by decide)
          show (execOp a.eval _).run Try.prog W = .ok .skip (W.setCell ⟨gm, 2, none⟩ (.int .i64 (f 1)))
          simp [go_sem, e47, e33, c, fz]
        · cases ho
          show (execOp a.eval _).run Try.prog W = .ok (.value (.pointer (some ⟨gm, 3, none⟩))) W
          simp [go_sem, e6]
        · cases ho
          have e48 : a.tmps[48]? = some (.pointer (some ⟨gm, 3, none⟩)) := ht.new 20 48 rfl (hdep ⟨20, .data⟩ (by simp) rfl)
          have e35 : a.tmps[35]? = some (.int .i64 (f 2)) := ht.new 5 35 rfl (hdep ⟨5, .data⟩ (by simp) rfl)
          obtain ⟨⟨v, c⟩, fz⟩ := hst 3 (by decide)
          show (execOp a.eval _).run Try.prog W = .ok .skip (W.setCell ⟨gm, 3, none⟩ (.int .i64 (f 2)))
          simp [go_sem, e48, e35, c, fz]
        · cases ho
          show (execOp a.eval _).run Try.prog W = .ok (.value (.pointer (some ⟨gm, 4, none⟩))) W
          simp [go_sem, e6]
        · cases ho
          have e49 : a.tmps[49]? = some (.pointer (some ⟨gm, 4, none⟩)) := ht.new 22 49 rfl (hdep ⟨22, .data⟩ (by simp) rfl)
          have e37 : a.tmps[37]? = some (.int .i64 (f 3)) := ht.new 7 37 rfl (hdep ⟨7, .data⟩ (by simp) rfl)
          obtain ⟨⟨v, c⟩, fz⟩ := hst 4 (by decide)
          show (execOp a.eval _).run Try.prog W = .ok .skip (W.setCell ⟨gm, 4, none⟩ (.int .i64 (f 3)))
          simp [go_sem, e49, e37, c, fz]
        · cases ho
          show (execOp a.eval _).run Try.prog W = .ok (.value (.pointer (some ⟨gm, 5, none⟩))) W
          simp [go_sem, e6]
        · cases ho
          have e50 : a.tmps[50]? = some (.pointer (some ⟨gm, 5, none⟩)) := ht.new 24 50 rfl (hdep ⟨24, .data⟩ (by simp) rfl)
          have e39 : a.tmps[39]? = some (.int .i64 (f 4)) := ht.new 9 39 rfl (hdep ⟨9, .data⟩ (by simp) rfl)
          obtain ⟨⟨v, c⟩, fz⟩ := hst 5 (by decide)
          show (execOp a.eval _).run Try.prog W = .ok .skip (W.setCell ⟨gm, 5, none⟩ (.int .i64 (f 4)))
          simp [go_sem, e50, e39, c, fz]
        · cases ho
          show (execOp a.eval _).run Try.prog W = .ok (.value (.pointer (some ⟨gm, 6, none⟩))) W
          simp [go_sem, e6]
        · cases ho
          have e51 : a.tmps[51]? = some (.pointer (some ⟨gm, 6, none⟩)) := ht.new 26 51 rfl (hdep ⟨26, .data⟩ (by simp) rfl)
          have e41 : a.tmps[41]? = some (.int .i64 (f 5)) := ht.new 11 41 rfl (hdep ⟨11, .data⟩ (by simp) rfl)
          obtain ⟨⟨v, c⟩, fz⟩ := hst 6 (by decide)
          show (execOp a.eval _).run Try.prog W = .ok .skip (W.setCell ⟨gm, 6, none⟩ (.int .i64 (f 5)))
          simp [go_sem, e51, e41, c, fz]
        · cases ho
          show (execOp a.eval _).run Try.prog W = .ok (.value (.pointer (some ⟨gm, 7, none⟩))) W
          simp [go_sem, e6]
        · cases ho
          have e52 : a.tmps[52]? = some (.pointer (some ⟨gm, 7, none⟩)) := ht.new 28 52 rfl (hdep ⟨28, .data⟩ (by simp) rfl)
          have e43 : a.tmps[43]? = some (.int .i64 (f 6)) := ht.new 13 43 rfl (hdep ⟨13, .data⟩ (by simp) rfl)
          obtain ⟨⟨v, c⟩, fz⟩ := hst 7 (by decide)
          show (execOp a.eval _).run Try.prog W = .ok .skip (W.setCell ⟨gm, 7, none⟩ (.int .i64 (f 6)))
          simp [go_sem, e52, e43, c, fz]
        · cases ho
          show (execOp a.eval _).run Try.prog W = .ok (.value (.pointer (some ⟨gm, 10, none⟩))) W
          simp [go_sem, e6]
        · cases ho
          have e53 : a.tmps[53]? = some (.pointer (some ⟨gm, 10, none⟩)) := ht.new 30 53 rfl (hdep ⟨30, .data⟩ (by simp) rfl)
          have e45 : a.tmps[45]? = some (.int .i64 (f 7)) := ht.new 15 45 rfl (hdep ⟨15, .data⟩ (by simp) rfl)
          obtain ⟨⟨v, c⟩, fz⟩ := hst 10 (by decide)
          show (execOp a.eval _).run Try.prog W = .ok .skip (W.setCell ⟨gm, 10, none⟩ (.int .i64 (f 7)))
          simp [go_sem, e53, e45, c, fz]
      have H9 : Hid (QS w (wr.drew.setRow gm ((Msg.cells { zeroMsg with kind := kd, n := fun i => if i < 8 then f i else 0 } A0).toArray)) g gr gm s { zeroMsg with kind := kd, n := fun i => if i < 8 then f i else 0 } A0 (st2 s.data.toList) ∧ (wr.drew.setRow gm ((Msg.cells { zeroMsg with kind := kd, n := fun i => if i < 8 then f i else 0 } A0).toArray)).heap[gl]? = some (.cells (lst f) TL (0, 0)) ∧ gm < gl) :=
        Lib.hid ⟨(HX.out.1.on (below_drew wr)).row, (setRow_other _ _ _ _ (by have := HX.out.2.2.2.1; omega)).trans HX.out.2.1, HX.out.2.2.2.1⟩
      simp [foldA, foldC, stepC, dstOf, Act.put]
      change Exit.then _ _ _ _ (wr.drew.setRow gm ((Msg.cells { zeroMsg with kind := kd, n := fun i => if i < 8 then f i else 0 } A0).toArray))
      clear HX HLD
      generalize wr.drew.setRow gm ((Msg.cells { zeroMsg with kind := kd, n := fun i => if i < 8 then f i else 0 } A0).toArray) = w9 at *
      go_upto_region 10 with (fail)
      have HLD : Hid (∀ cs k, k < 15 → (w9.drew.setRow gm cs).cell? ⟨gl, k, none⟩ = some (.int .i64 (f k))) := Lib.hid (fun cs k hk => by
        rw [cell_setRow_other _ _ _ _ (by show gl ≠ gm; have := H9.out.2.2; omega)]
        show w9.cell? ⟨gl, k, none⟩ = _
        rw [cell_of_row _ _ _ _ _ _ H9.out.2.1]; exact lst_at f k hk)
      refine wp_region_tab (gm := gm) (val := fun i => (#[.pointer (some ⟨gl, 8, none⟩), .int .i64 (f 8), .pointer (some ⟨gl, 9, none⟩), .int .i64 (f 9), .pointer (some ⟨gl, 10, none⟩), .int .i64 (f 10), .pointer (some ⟨gl, 11, none⟩), .int .i64 (f 11), .pointer (some ⟨gl, 12, none⟩), .int .i64 (f 12), .pointer (some ⟨gl, 13, none⟩), .int .i64 (f 13), .pointer (some ⟨gl, 14, none⟩), .int .i64 (f 14), .pointer (some ⟨gm, 11, none⟩), .int .i64 (f 8), .pointer (some ⟨gm, 13, none⟩), .int .i64 (f 9), .pointer (some ⟨gm, 14, none⟩), .pointer (some ⟨gm, 14, none⟩), .int .i64 (f 10), .pointer (some ⟨gm, 14, none⟩), .pointer (some ⟨gm, 15, none⟩), .int .i64 (f 11), .pointer (some ⟨gm, 16, none⟩), .int .i64 (f 12), .pointer (some ⟨gm, 17, none⟩), .int .i64 (f 13), .pointer (some ⟨gm, 18, none⟩), .int .i64 (f 14)] : Array Value).getD i undef) (cell := fun i => (#[none, none, none, none, none, none, none, none, none, none, none, none, none, none, none, some 11, none, some 13, none, none, some 14, none, none, some 15, none, some 16, none, some 17, none, some 18] : Array (Option Nat)).getD i none) (by kernel_rfl) (apart_of _ 139 22 rfl rfl (by kernel_rfl)) (by kernel_rfl) (guards_of (by kernel_rfl)) H9.out.1.msg ?_ ?_
      · as_aux_lemma =>
        intro i o listed a cs ho ht hdep
        have hi : i < 30 := (Array.getElem?_eq_some_iff.1 ho).1
        have e6 : a.tmps[6]? = some (.pointer (some ⟨gm, 0, none⟩)) := (ht.kept (by kernel_rfl)).trans rfl
        have e7 : a.tmps[7]? = some (.pointer (some ⟨gl, 0, none⟩)) := (ht.kept (by kernel_rfl)).trans rfl
        have hst : ∀ k, k < 22 → (∃ v, (w9.drew.setRow gm cs).cell? ⟨gm, k, none⟩ = some v) ∧ (w9.drew.setRow gm cs).frozen? ⟨gm, k, none⟩ = false := fun k hk => by
          have h1 := setRow_heap w9.drew gm _ cs TM (0, 0) H9.out.1.msg
          have h2 : cs.size = 22 := ht.cz
          exact ⟨⟨_, (cell_of_row _ _ _ _ _ _ h1).trans (Array.getElem?_eq_getElem (by omega))⟩, frozen_of_row _ _ _ _ _ h1⟩
        have hld := HLD.out cs
        generalize w9.drew.setRow gm cs = W at *
        clear H9 HLD HF
        obtain rfl | rfl | rfl | rfl | rfl | rfl | rfl | rfl | rfl | rfl | rfl | rfl | rfl | rfl | rfl | rfl | rfl | rfl | rfl | rfl | rfl | rfl | rfl | rfl | rfl | rfl | rfl | rfl | rfl | rfl : i = 0 ∨ i = 1 ∨ i = 2 ∨ i = 3 ∨ i = 4 ∨ i = 5 ∨ i = 6 ∨ i = 7 ∨ i = 8 ∨ i = 9 ∨ i = 10 ∨ i = 11 ∨ i = 12 ∨ i = 13 ∨ i = 14 ∨ i = 15 ∨ i = 16 ∨ i = 17 ∨ i = 18 ∨ i = 19 ∨ i = 20 ∨ i = 21 ∨ i = 22 ∨ i = 23 ∨ i = 24 ∨ i = 25 ∨ i = 26 ∨ i = 27 ∨ i = 28 ∨ i = 29 := by omega
        · cases ho
          show (execOp a.eval _).run Try.prog W = .ok (.value (.pointer (some ⟨gl, 8, none⟩))) W
          simp [go_sem, e7]
        · cases ho
          have e54 : a.tmps[54]? = some (.pointer (some ⟨gl, 8, none⟩)) := ht.new 0 54 rfl (hdep ⟨0, .data⟩ (by simp) rfl)
          have c := hld 8 (by decide)
          show (execOp a.eval _).run Try.prog W = .ok (.value (.int .i64 (f 8))) W
          simp [go_sem, e54, c]
        · cases ho
          show (execOp a.eval _).run Try.prog W = .ok (.value (.pointer (some ⟨gl, 9, none⟩))) W
          simp [go_sem, e7]
        · cases ho
          have e56 : a.tmps[56]? = some (.pointer (some ⟨gl, 9, none⟩)) := ht.new 2 56 rfl (hdep ⟨2, .data⟩ (by simp) rfl)
          have c := hld 9 (by decide)
          show (execOp a.eval _).run Try.prog W = .ok (.value (.int .i64 (f 9))) W
          simp [go_sem, e56, c]
        · cases ho
          show (execOp a.eval _).run Try.prog W = .ok (.value (.pointer (some ⟨gl, 10, none⟩))) W
          simp [go_sem, e7]
        · cases ho
          have e58 : a.tmps[58]? = some (.pointer (some ⟨gl, 10, none⟩)) := ht.new 4 58 rfl (hdep ⟨4, .data⟩ (by simp) rfl)
          have c := hld 10 (by decide)
          show (execOp a.eval _).run Try.prog W = .ok (.value (.int .i64 (f 10))) W
          simp [go_sem, e58, c]
        · cases ho
          show (execOp a.eval _).run Try.prog W = .ok (.value (.pointer (some ⟨gl, 11, none⟩))) W
          simp [go_sem, e7]
        · cases ho
          have e60 : a.tmps[60]? = some (.pointer (some ⟨gl, 11, none⟩)) := ht.new 6 60 rfl (hdep ⟨6, .data⟩ (by simp) rfl)
          have c := hld 11 (by decide)
          show (execOp a.eval _).run Try.prog W = .ok (.value (.int .i64 (f 11))) W
          simp [go_sem, e60, c]
        · cases ho
          show (execOp a.eval _).run Try.prog W = .ok (.value (.pointer (some ⟨gl, 12, none⟩))) W
          simp [go_sem, e7]
        · cases ho
          have e62 : a.tmps[62]? = some (.pointer (some ⟨gl, 12, none⟩)) := ht.new 8 62 rfl (hdep ⟨8, .data⟩ (by simp) rfl)
          have c := hld 12 (by decide)
          show (execOp a.eval _).run Try.prog W = .ok (.value (.int .i64 (f 12))) W
          simp [go_sem, e62, c]
        · cases ho
          show (execOp a.eval _).run Try.prog W = .ok (.value (.pointer (some ⟨gl, 13, none⟩))) W
          simp [go_sem, e7]
        · cases ho
          have e64 : a.tmps[64]? = some (.pointer (some ⟨gl, 13, none⟩)) := ht.new 10 64 rfl (hdep ⟨10, .data⟩ (by simp) rfl)
          have c := hld 13 (by decide)
          show (execOp a.eval _).run Try.prog W = .ok (.value (.int .i64 (f 13))) W
          simp [go_sem, e64, c]
        · cases ho
          show (execOp a.eval _).run Try.prog W = .ok (.value (.pointer (some ⟨gl, 14, none⟩))) W
          simp [go_sem, e7]
        · cases ho
          have e66 : a.tmps[66]? = some (.pointer (some ⟨gl, 14, none⟩)) := ht.new 12 66 rfl (hdep ⟨12, .data⟩ (by simp) rfl)
          have c := hld 14 (by decide)
          show (execOp a.eval _).run Try.prog W = .ok (.value (.int .i64 (f 14))) W
          simp [go_sem, e66, c]
        · cases ho
          show (execOp a.eval _).run Try.prog W = .ok (.value (.pointer (some ⟨gm, 11, none⟩))) W
          simp [go_sem, e6]
        · cases ho
          have e68 : a.tmps[68]? = some (.pointer (some ⟨gm, 11, none⟩)) := ht.new 14 68 rfl (hdep ⟨14, .data⟩ (by simp) rfl)
          have e55 : a.tmps[55]? = some (.int .i64 (f 8)) := ht.new 1 55 rfl (hdep ⟨1, .data⟩ (by simp) rfl)
          obtain ⟨⟨v, c⟩, fz⟩ := hst 11 (by decide)
          show (execOp a.eval _).run Try.prog W = .ok .skip (W.setCell ⟨gm, 11, none⟩ (.int .i64 (f 8)))
          simp [go_sem, e68, e55, c, fz]
        · cases ho
          show (execOp a.eval _).run Try.prog W = .ok (.value (.pointer (some ⟨gm, 13, none⟩))) W
          simp [go_sem, e6]
        · cases ho
          have e69 : a.tmps[69]? = some (.pointer (some ⟨gm, 13, none⟩)) := ht.new 16 69 rfl (hdep ⟨16, .data⟩ (by simp) rfl)
          have e57 : a.tmps[57]? = some (.int .i64 (f 9)) := ht.new 3 57 rfl (hdep ⟨3, .data⟩ (by simp) rfl)
          obtain ⟨⟨v, c⟩, fz⟩ := hst 13 (by decide)
          show (execOp a.eval _).run Try.prog W = .ok .skip (W.setCell ⟨gm, 13, none⟩ (.int .i64 (f 9)))
          simp [go_sem, e69, e57, c, fz]
        · cases ho
          show (execOp a.eval _).run Try.prog W = .ok (.value (.pointer (some ⟨gm, 14, none⟩))) W
          simp [go_sem, e6]
        · cases ho
          have e70 : a.tmps[70]? = some (.pointer (some ⟨gm, 14, none⟩)) := ht.new 18 70 rfl (hdep ⟨18, .data⟩ (by simp) rfl)
          show (execOp a.eval _).run Try.prog W = .ok (.value (.pointer (some ⟨gm, 14, none⟩))) W
          simp [go_sem, e70]
        · cases ho
          have e71 : a.tmps[71]? = some (.pointer (some ⟨gm, 14, none⟩)) := ht.new 19 71 rfl (hdep ⟨19, .data⟩ (by simp) rfl)
          have e59 : a.tmps[59]? = some (.int .i64 (f 10)) := ht.new 5 59 rfl (hdep ⟨5, .data⟩ (by simp) rfl)
          obtain ⟨⟨v, c⟩, fz⟩ := hst 14 (by decide)
          show (execOp a.eval _).run Try.prog W = .ok .skip (W.setCell ⟨gm, 14, none⟩ (.int .i64 (f 10)))
          simp [go_sem, e71, e59, c, fz]
        · cases ho
          show (execOp a.eval _).run Try.prog W = .ok (.value (.pointer (some ⟨gm, 14, none⟩))) W
          simp [go_sem, e6]
        · cases ho
          have e72 : a.tmps[72]? = some (.pointer (some ⟨gm, 14, none⟩)) := ht.new 21 72 rfl (hdep ⟨21, .data⟩ (by simp) rfl)
          show (execOp a.eval _).run Try.prog W = .ok (.value (.pointer (some ⟨gm, 15, none⟩))) W
          simp [go_sem, e72]
        · cases ho
          have e73 : a.tmps[73]? = some (.pointer (some ⟨gm, 15, none⟩)) := ht.new 22 73 rfl (hdep ⟨22, .data⟩ (by simp) rfl)
          have e61 : a.tmps[61]? = some (.int .i64 (f 11)) := ht.new 7 61 rfl (hdep ⟨7, .data⟩ (by simp) rfl)
          obtain ⟨⟨v, c⟩, fz⟩ := hst 15 (by decide)
          show (execOp a.eval _).run Try.prog W = .ok .skip (W.setCell ⟨gm, 15, none⟩ (.int .i64 (f 11)))
          simp [go_sem, e73, e61, c, fz]
        · cases ho
          show (execOp a.eval _).run Try.prog W = .ok (.value (.pointer (some ⟨gm, 16, none⟩))) W
          simp [go_sem, e6]
        · cases ho
          have e74 : a.tmps[74]? = some (.pointer (some ⟨gm, 16, none⟩)) := ht.new 24 74 rfl (hdep ⟨24, .data⟩ (by simp) rfl)
          have e63 : a.tmps[63]? = some (.int .i64 (f 12)) := ht.new 9 63 rfl (hdep ⟨9, .data⟩ (by simp) rfl)
          obtain ⟨⟨v, c⟩, fz⟩ := hst 16 (by decide)
          show (execOp a.eval _).run Try.prog W = .ok .skip (W.setCell ⟨gm, 16, none⟩ (.int .i64 (f 12)))
          simp [go_sem, e74, e63, c, fz]
        · cases ho
          show (execOp a.eval _).run Try.prog W = .ok (.value (.pointer (some ⟨gm, 17, none⟩))) W
          simp [go_sem, e6]
        · cases ho
          have e75 : a.tmps[75]? = some (.pointer (some ⟨gm, 17, none⟩)) := ht.new 26 75 rfl (hdep ⟨26, .data⟩ (by simp) rfl)
          have e65 : a.tmps[65]? = some (.int .i64 (f 13)) := ht.new 11 65 rfl (hdep ⟨11, .data⟩ (by simp) rfl)
          obtain ⟨⟨v, c⟩, fz⟩ := hst 17 (by decide)
          show (execOp a.eval _).run Try.prog W = .ok .skip (W.setCell ⟨gm, 17, none⟩ (.int .i64 (f 13)))
          simp [go_sem, e75, e65, c, fz]
        · cases ho
          show (execOp a.eval _).run Try.prog W = .ok (.value (.pointer (some ⟨gm, 18, none⟩))) W
          simp [go_sem, e6]
        · cases ho
          have e76 : a.tmps[76]? = some (.pointer (some ⟨gm, 18, none⟩)) := ht.new 28 76 rfl (hdep ⟨28, .data⟩ (by simp) rfl)
          have e67 : a.tmps[67]? = some (.int .i64 (f 14)) := ht.new 13 67 rfl (hdep ⟨13, .data⟩ (by simp) rfl)
          obtain ⟨⟨v, c⟩, fz⟩ := hst 18 (by decide)
          show (execOp a.eval _).run Try.prog W = .ok .skip (W.setCell ⟨gm, 18, none⟩ (.int .i64 (f 14)))
          simp [go_sem, e76, e67, c, fz]
      have H10 : Hid (QS w (w9.drew.setRow gm ((Msg.cells { zeroMsg with kind := kd, n := f } A0).toArray)) g gr gm s { zeroMsg with kind := kd, n := f } A0 (st2 s.data.toList)) := Lib.hid (H9.out.1.on (below_drew w9)).row
      simp [foldA, foldC, stepC, dstOf, Act.put]
      change Exit.then _ _ _ _ (w9.drew.setRow gm ((Msg.cells { zeroMsg with kind := kd, n := f } A0).toArray))
      clear H9 HLD
      generalize w9.drew.setRow gm ((Msg.cells { zeroMsg with kind := kd, n := f } A0).toArray) = w10 at *
      go_wp2_with fail
      refine (refBool_any gr s _ w10 H10.out.rd hs2).mono ?_
      rintro e w11 ⟨rfl, hr, hgb⟩
      have H11 : Hid (QS w w11 g gr gm s { zeroMsg with kind := kd, n := f } A0 (st3 s.data.toList)) := Lib.hid (H10.out.read hr hgb)
      clear hr hgb H10
      obtain ⟨gd, hgd⟩ : ∃ gd, (WM.bool s.data.toList (st2 s.data.toList)).1 = gd := ⟨_, rfl⟩
      have HHgd := Lib.hid hgd
      rw [hgd]
      clear hgd
      have c8 := H11.out.cell 8 _ rfl
      have fz8 := H11.out.frozen 8
      have H12 : Hid (QS w (w11.setCell ⟨gm, 8, none⟩ (.bool gd)) g gr gm s { zeroMsg with kind := kd, n := f, good := gd } A0 (st3 s.data.toList)) := Lib.hid (H11.out.set 8 _ rfl)
      clear H11
      go_upto_region 12 with (fail)
      generalize w11.setCell ⟨gm, 8, none⟩ (.bool gd) = w12 at *
      clear c8 fz8
      go_wp2_with fail
      refine (refNum_any gr 1 s _ w12 H12.out.rd hs2 (by omega)).mono ?_
      rintro e w13 ⟨rfl, hr, hgb⟩
      have H13 : Hid (QS w w13 g gr gm s { zeroMsg with kind := kd, n := f, good := gd } A0 (st4 s.data.toList)) := Lib.hid (H12.out.read hr hgb)
      clear hr hgb H12
      have hbop := num_lt' s.data.toList 1 (st3 s.data.toList)
      obtain ⟨op, hop⟩ : ∃ op, (WM.num s.data.toList 1 (st3 s.data.toList)).1 = op := ⟨_, rfl⟩
      have HHop := Lib.hid hop
      rw [hop] at hbop ⊢
      clear hop
      have hcop : op < 256 := hbop
      clear hbop
      have c19 := H13.out.cell 19 _ rfl
      have fz19 := H13.out.frozen 19
      have H14 : Hid (QS w (w13.setCell ⟨gm, 19, none⟩ (.int .u8 (op : Nat))) g gr gm s { zeroMsg with kind := kd, n := f, good := gd, op := op } A0 (st4 s.data.toList)) := Lib.hid (H13.out.set 19 _ rfl)
      clear H13
      go_upto_region 13 with (fail)
      generalize w13.setCell ⟨gm, 19, none⟩ (.int .u8 (op : Nat)) = w14 at *
      clear c19 fz19
      go_wp2_with fail
      refine (refNum_any gr 4 s _ w14 H14.out.rd hs2 (by omega)).mono ?_
      rintro e w15 ⟨rfl, hr, hgb⟩
      have H15 : Hid (QS w w15 g gr gm s { zeroMsg with kind := kd, n := f, good := gd, op := op } A0 (st5 s.data.toList)) := Lib.hid (H14.out.read hr hgb)
      clear hr hgb H14
      have hber := num_lt' s.data.toList 4 (st4 s.data.toList)
      obtain ⟨er, her⟩ : ∃ er, (WM.num s.data.toList 4 (st4 s.data.toList)).1 = er := ⟨_, rfl⟩
      have HHer := Lib.hid her
      rw [her] at hber ⊢
      clear her
      have hcer : er < 4294967296 := hber
      clear hber
      have c20 := H15.out.cell 20 _ rfl
      have fz20 := H15.out.frozen 20
      have H16 : Hid (QS w (w15.setCell ⟨gm, 20, none⟩ (.int .i64 (er : Nat))) g gr gm s { zeroMsg with kind := kd, n := f, good := gd, op := op, err := (er : Nat) } A0 (st5 s.data.toList)) := Lib.hid (H15.out.set 20 _ rfl)
      clear H15
      go_upto_region 14 with (fail)
      generalize w15.setCell ⟨gm, 20, none⟩ (.int .i64 (er : Nat)) = w16 at *
      clear c20 fz20
      go_wp2_with fail
      refine (refNum_any gr 1 s _ w16 H16.out.rd hs2 (by omega)).mono ?_
      rintro e w17 ⟨rfl, hr, hgb⟩
      have H17 : Hid (QS w w17 g gr gm s { zeroMsg with kind := kd, n := f, good := gd, op := op, err := (er : Nat) } A0 (st6 s.data.toList)) := Lib.hid (H16.out.read hr hgb)
      clear hr hgb H16
      have hbld := num_lt' s.data.toList 1 (st5 s.data.toList)
      obtain ⟨ld, hld⟩ : ∃ ld, (WM.num s.data.toList 1 (st5 s.data.toList)).1 = ld := ⟨_, rfl⟩
      have HHld := Lib.hid hld
      rw [hld] at hbld ⊢
      clear hld
      have hcld : ld < 256 := hbld
      clear hbld
      have c21 := H17.out.cell 21 _ rfl
      have fz21 := H17.out.frozen 21
      have H18 : Hid (QS w (w17.setCell ⟨gm, 21, none⟩ (.int .i64 (ld : Nat))) g gr gm s { zeroMsg with kind := kd, n := f, good := gd, op := op, err := (er : Nat), leader := (ld : Nat) } A0 (st6 s.data.toList)) := Lib.hid (H17.out.set 21 _ rfl)
      clear H17
      go_upto_region 15 with (fail)
      generalize w17.setCell ⟨gm, 21, none⟩ (.int .i64 (ld : Nat)) = w18 at *
      clear c21 fz21
      go_wp2_with fail
      refine (refRdText_any gr 3500 s _ w18 H18.out.rd hs2 (by decide)).mono ?_
      rintro e w19 ⟨rfl, hr, hgb⟩
      have H19 : Hid (QS w w19 g gr gm s { zeroMsg with kind := kd, n := f, good := gd, op := op, err := (er : Nat), leader := (ld : Nat) } A0 (st7 s.data.toList)) := Lib.hid (H18.out.read hr hgb)
      clear hr hgb H18
      obtain ⟨dt, hdt⟩ : ∃ dt, bs (WM.textR s.data.toList 3500 (st6 s.data.toList)).1 = dt := ⟨_, rfl⟩
      have HHdt := Lib.hid hdt
      rw [hdt]
      clear hdt
      have c12 := H19.out.cell 12 _ rfl
      have fz12 := H19.out.frozen 12
      have H20 : Hid (QS w (w19.setCell ⟨gm, 12, none⟩ (.string dt)) g gr gm s { zeroMsg with kind := kd, n := f, good := gd, op := op, err := (er : Nat), leader := (ld : Nat), data := dt } A0 (st7 s.data.toList)) := Lib.hid (H19.out.set 12 _ rfl)
      clear H19
      go_upto_region 16 with (fail)
      generalize w19.setCell ⟨gm, 12, none⟩ (.string dt) = w20 at *
      clear c12 fz12
      go_wp2_with fail
      refine (refNum_any gr 1 s _ w20 H20.out.rd hs2 (by omega)).mono ?_
      rintro e w21 ⟨rfl, hr, hgb⟩
      have H21 : Hid (QS w w21 g gr gm s { zeroMsg with kind := kd, n := f, good := gd, op := op, err := (er : Nat), leader := (ld : Nat), data := dt } A0 (st8 s.data.toList)) := Lib.hid (H20.out.read hr hgb)
      clear hr hgb H20
      have hbcn := num_lt' s.data.toList 1 (st7 s.data.toList)
      obtain ⟨cn, hcn⟩ : ∃ cn, (WM.num s.data.toList 1 (st7 s.data.toList)).1 = cn := ⟨_, rfl⟩
      have HHcn := Lib.hid hcn
      rw [hcn] at hbcn ⊢
      clear hcn
      have hccn : cn < 256 := hbcn
      clear hbcn
      obtain ⟨m0, hm0⟩ : ∃ m0, ({ zeroMsg with kind := kd, n := f, good := gd, op := op, err := (er : Nat), leader := (ld : Nat), data := dt } : Msg) = m0 := ⟨_, rfl⟩
      rw [hm0] at H21
      have HM0 := Lib.hid hm0
      clear hm0
      obtain ⟨q, hq⟩ : ∃ q, min cn 4 = q := ⟨_, rfl⟩
      have hq4 : q ≤ 4 := by omega
      have hqc : q ≤ cn := by omega
      have HQ := Lib.hid hq
      have HN0 := Lib.hid (And.intro HF.out (And.intro HKD.out (And.intro HHgd.out (And.intro HHop.out (And.intro HHer.out (And.intro HHld.out (And.intro HHdt.out HHcn.out)))))))
      clear hq HF HKD HHgd HHop HHer HHld HHdt HHcn hj hjk hlt
      go_wp2_with fail
      go_loopg [10] (6) (fun k v10 wr => ∃ (j : Nat) (A : Value), v10 = .int .i64 j ∧ j ≤ q ∧ 6 - j ≤ k ∧ Hid (QS w wr g gr gm s m0 A (entsN s.data.toList j (st8 s.data.toList)).2 ∧ wr.ownsRow (gm + 1) TE 2 A j (eCells ((entsN s.data.toList j (st8 s.data.toList)).1.map fun x => (wholeN x.1, x.2)))))
      case atStart => exact ⟨0, A0, rfl, by omega, by omega, Lib.hid ⟨H21.out, ⟨rfl, .inl ⟨rfl, rfl⟩⟩⟩⟩
      case round =>
        clear H21
        obtain ⟨j, A, rfl, hj, hjk, HX⟩ := hrel
        by_cases hlt : j < q
        · have hj1 : (j : Int) < cn := by omega
          have hj4 : (j : Int) < 4 := by omega
          as_aux_lemma =>
          go_upto_region 21 with (fail)
          have hn0 := heap_alloc_new wr (.cells #[.int .i64 0, .string ⟨#[]⟩] TE)
          have hb0 := below_new wr (.cells #[.int .i64 0, .string ⟨#[]⟩] TE)
          have HX1 := Lib.hid (And.intro (HX.out.1.on hb0) (And.intro (ownsRow_below HX.out.2 hb0) hn0))
          have hge : gm < wr.heap.size := lt_of_block HX.out.1.msg
          have hw0 : w.heap.size ≤ wr.heap.size := HX.out.1.up.size
          have HAL : Hid (∀ k, A.ownBlock = some k → k ≠ wr.heap.size ∧ gm + 1 ≤ k) := Lib.hid (fun k e => by have h := HX.out.2.lt k e; omega)
          change Code.wp _ _ _ _ (wr.alloc (.cells #[.int .i64 0, .string ⟨#[]⟩] TE))
          clear HX hn0 hb0
          generalize wr.alloc (.cells #[.int .i64 0, .string ⟨#[]⟩] TE) = wa at *
          generalize wr.heap.size = ge at *
          have hl8 := num_lt' s.data.toList 8 (entsN s.data.toList j (st8 s.data.toList)).2
          go_wp2_with fail
          refine (refNum_any gr 8 s _ wa HX1.out.1.rd hs2 (by omega)).mono ?_
          rintro e wb ⟨rfl, hr, hgb⟩
          have HX2 := Lib.hid (And.intro (HX1.out.1.read hr hgb) (And.intro (HX1.out.2.1.kept hgb (own_ne2 HX1.out.2.1 (by have := HGG.out.1; omega))) ((hgb.block ge (lt_of_block HX1.out.2.2) (fun e => by have := HGG.out.1; cases e; omega)).trans HX1.out.2.2)))
          clear hr hgb HX1
          obtain ⟨x, hx⟩ : ∃ x, (WM.num s.data.toList 8 (entsN s.data.toList j (st8 s.data.toList)).2).1 = x := ⟨_, rfl⟩
          have HXX := Lib.hid hx
          rw [hx] at hl8 ⊢
          clear hx
          have hx8 : x < 18446744073709551616 := hl8
          clear hl8
          go_wp2_with fail
          refine (whole_any x wb hx8).mono ?_
          rintro e wb2 ⟨rfl, rfl⟩
          obtain ⟨v, hv⟩ : ∃ v, wholeN x = v := ⟨_, rfl⟩
          have HV := Lib.hid hv
          rw [hv]
          clear hv hx8
          have c0 : wb2.cell? ⟨ge, 0, none⟩ = some (.int .i64 0) := by rw [cell_of_row _ _ 0 _ _ _ HX2.out.2.2]; rfl
          have f0 : wb2.frozen? ⟨ge, 0, none⟩ = false := frozen_of_row _ _ 0 _ _ HX2.out.2.2
          have hbx3 : (wb2.setCell ⟨ge, 0, none⟩ (.int .i64 v)).heap[ge]? = some (.cells #[.int .i64 v, .string ⟨#[]⟩] TE (0, 0)) := heap_setCell_same _ _ _ _ _ _ HX2.out.2.2
          have HX3 := Lib.hid (And.intro (HX2.out.1.other (grown_set wb2 ge 0 (.int .i64 v)) (by have := HGG.out.2; omega) (by have := HGG.out.1; omega) (by omega) hw0) (And.intro (HX2.out.2.1.kept (grown_set wb2 ge 0 (.int .i64 v)) (by
            cases hA : A.ownBlock with
            | none => exact .inl rfl
            | some k => exact .inr (fun e => (HAL.out k hA).1 (by injection e)))) hbx3))
          clear HX2 hbx3
          go_upto_region 22 with (fail)
          generalize wb2.setCell ⟨ge, 0, none⟩ (.int .i64 v) = wc at *
          clear c0 f0
          go_wp2_with fail
          refine (refRdText_any gr 3500 s _ wc HX3.out.1.rd hs2 (by decide)).mono ?_
          rintro e wd ⟨rfl, hr, hgb⟩
          have HX4 := Lib.hid (And.intro (HX3.out.1.read hr hgb) (And.intro (HX3.out.2.1.kept hgb (own_ne2 HX3.out.2.1 (by have := HGG.out.1; omega))) ((hgb.block ge (lt_of_block HX3.out.2.2) (fun e => by have := HGG.out.1; cases e; omega)).trans HX3.out.2.2)))
          clear hr hgb HX3
          obtain ⟨t, ht⟩ : ∃ t, bs (WM.textR s.data.toList 3500 (WM.num s.data.toList 8 (entsN s.data.toList j (st8 s.data.toList)).2).2).1 = t := ⟨_, rfl⟩
          have HTT := Lib.hid ht
          rw [ht]
          clear ht
          have c1 : wd.cell? ⟨ge, 1, none⟩ = some (.string ⟨#[]⟩) := by rw [cell_of_row _ _ 1 _ _ _ HX4.out.2.2]; rfl
          have f1 : wd.frozen? ⟨ge, 1, none⟩ = false := frozen_of_row _ _ 1 _ _ HX4.out.2.2
          have hbx5 : (wd.setCell ⟨ge, 1, none⟩ (.string t)).heap[ge]? = some (.cells #[.int .i64 v, .string t] TE (0, 0)) := heap_setCell_same _ _ _ _ _ _ HX4.out.2.2
          have HX5 := Lib.hid (And.intro (HX4.out.1.other (grown_set wd ge 1 (.string t)) (by have := HGG.out.2; omega) (by have := HGG.out.1; omega) (by omega) hw0) (And.intro (HX4.out.2.1.kept (grown_set wd ge 1 (.string t)) (by
            cases hA : A.ownBlock with
            | none => exact .inl rfl
            | some k => exact .inr (fun e => (HAL.out k hA).1 (by injection e)))) hbx5))
          clear HX4 hbx5
          go_upto_region 23 with (fail)
          generalize wd.setCell ⟨ge, 1, none⟩ (.string t) = we at *
          clear c1 f1
          have k9 : we.cell? ⟨gm, 9, none⟩ = some A := HX5.out.1.cell 9 _ rfl
          have kb0 : we.cell? ⟨ge, 0, none⟩ = some (.int .i64 v) := by rw [cell_of_row _ _ 0 _ _ _ HX5.out.2.2]; rfl
          have kb1 : we.cell? ⟨ge, 1, none⟩ = some (.string t) := by rw [cell_of_row _ _ 1 _ _ _ HX5.out.2.2]; rfl
          have hbe := below_new we (.cells #[.int .i64 v, .string t] TE)
          have HX6 := Lib.hid (And.intro (HX5.out.1.on hbe) (ownsRow_below HX5.out.2.1 hbe))
          have hsze : gm + 1 ≤ (we.alloc (.cells #[.int .i64 v, .string t] TE)).heap.size := Nat.le_trans (lt_of_block HX5.out.1.msg) hbe.size
          go_upto_region 19 with (at_builtin; refine wpList_append_own_at _ rfl _ _ 23 rfl (gm + 1) TE i0 _ 2 24 Try.underlying23 hi0 hz0 hz1 hz2 rfl (by decide) A j _ rfl HX6.out.2 ⟨we.heap.size, 0, none⟩ 1 1 [.int .i64 v, .string t] rfl rfl (two_new we _ _ TE) (two_one v t) (by unfold maxLen; omega) (by omega) hsze ?_; intro A2 wf o2 g2 _ _; obtain ⟨g2a, c2a, rfl⟩ := own_succ o2; have HX7 := Lib.hid (And.intro (HX6.out.1.row2 g2 (fun k e => (HAL.out k e).2) HGG.out.1 HGG.out.2) o2); clear o2 g2; have k9f : wf.cell? ⟨gm, 9, none⟩ = some A := HX7.out.1.cell 9 _ rfl; have f9f : wf.frozen? ⟨gm, 9, none⟩ = false := HX7.out.1.frozen 9; clear k9 kb0 kb1)
          have HX8 := Lib.hid (And.intro (HX7.out.1.set (m' := m0) (A' := .slice (some ⟨g2a, 0, none⟩) (j + 1) c2a) 9 (.slice (some ⟨g2a, 0, none⟩) (j + 1) c2a) rfl) (HX7.out.2.kept (grown_set wf gm 9 (.slice (some ⟨g2a, 0, none⟩) (j + 1) c2a)) (own_ne2 HX7.out.2 (by omega))))
          clear k9f f9f
          have HFIN : Hid (QS w (wf.setCell ⟨gm, 9, none⟩ (.slice (some ⟨g2a, 0, none⟩) (j + 1) c2a)) g gr gm s m0 (.slice (some ⟨g2a, 0, none⟩) (j + 1) c2a) (entsN s.data.toList (j + 1) (st8 s.data.toList)).2 ∧ (wf.setCell ⟨gm, 9, none⟩ (.slice (some ⟨g2a, 0, none⟩) (j + 1) c2a)).ownsRow (gm + 1) TE 2 (.slice (some ⟨g2a, 0, none⟩) (j + 1) c2a) (j + 1) (eCells ((entsN s.data.toList (j + 1) (st8 s.data.toList)).1.map fun x => (wholeN x.1, x.2)))) := Lib.hid ⟨HX8.out.1, by
            have h := HX8.out.2
            simp only [entsN, List.map_append, List.map_cons, List.map_nil, eCells_snoc]
            rw [HXX.out, HV.out, HTT.out]
            exact h⟩
          clear HX8 HXX HV HTT
          go_wp2_with fail
          go_roundg (gk - 1)
          case measure => omega
          case rel => exact ⟨j + 1, .slice (some ⟨g2a, 0, none⟩) (j + 1) c2a, by go_num, by omega, by omega, HFIN⟩
        · obtain rfl : q = j := by omega
          obtain ⟨es, hes⟩ : ∃ es, ((entsN s.data.toList q (st8 s.data.toList)).1.map fun x => (wholeN x.1, x.2)) = es := ⟨_, rfl⟩
          have hlen : es.length = q := by rw [← hes, List.length_map, entsN_len]
          rw [hes] at HX
          obtain ⟨A', c', rfl, hearg, hlo⟩ := own_entries hlen HX.out.2
          have hcnt : cnt s.data.toList = cn := HN0.out.2.2.2.2.2.2.2
          have hend : (entsN s.data.toList q (st8 s.data.toList)).2 = rawEnd s.data.toList := by
            unfold rawEnd
            rw [hcnt, HQ.out, (entsR_eq s.data.toList (st8 s.data.toList) q).2]
          have hrm : refMsg s.data.toList = { m0 with ents := es } := by
            unfold refMsg rawMsg
            rw [hcnt, HQ.out, hes, ← HM0.out]
            simp only [HN0.out.1, HN0.out.2.1, HN0.out.2.2.1, HN0.out.2.2.2.1, HN0.out.2.2.2.2.1, HN0.out.2.2.2.2.2.1, HN0.out.2.2.2.2.2.2.1]
          have hsz : ∀ x ∈ es, x.2.size ≤ 16384 := fun x hx => by
            rw [← hes] at hx
            obtain ⟨y, hy, rfl⟩ := List.mem_map.1 hx
            have := entsN_size _ _ _ y hy
            show y.2.size ≤ 16384
            omega
          rw [hend] at HX
          obtain ⟨ee, hee⟩ : ∃ ee, (endOf s (rawEnd s.data.toList)).1 = ee := ⟨_, rfl⟩
          obtain ⟨pp, hpp⟩ : ∃ pp, (endOf s (rawEnd s.data.toList)).2 = pp := ⟨_, rfl⟩
          have hrr : readR s = if ee ≠ 0 then (zeroMsg, ee, pp) else if 4 < cn ∨ ({ m0 with ents := es } : Msg).check ≠ 0 then (zeroMsg, 7, 0) else ({ m0 with ents := es }, 0, 0) := by
            unfold readR
            rw [hcnt, hrm, ← hee, ← hpp]
          have HRR := Lib.hid hrr
          have HEN := Lib.hid (refRdEnd_any gr s (rawEnd s.data.toList) wr HX.out.1.rd)
          rw [hee, hpp] at HEN
          have HEA := Lib.hid (And.intro hearg (And.intro hlen (And.intro hsz hlo)))
          clear hes hlen hearg hlo hcnt hend hrm hsz hee hpp hrr HN0
          have HZ : ∀ (W : World) (a b : Nat), readR s = (zeroMsg, a, b) → MB W g zeroMsg A0 → Below w.heap.size w W → ∃ A c, Ending.returned (.tuple #[zeroMsg.val A0, .int .i64 a, .int .i64 b]) = .returned (.tuple #[(readR s).1.val (.slice A (readR s).1.ents.length c), .int .i64 (readR s).2.1, .int .i64 (readR s).2.2]) ∧ EArg W W.heap.size A (readR s).1.ents ∧ Below w.heap.size w W := fun W a b h _ hb => ⟨none, 0, by rw [h]; rfl, by rw [h]; exact fun k hk => absurd hk (Nat.not_lt_zero _), hb⟩
          have HZZ := Lib.hid HZ
          clear HZ
          by_cases hcn : cn ≤ 4
          · have hqc2 : ¬ (q : Int) < cn := by have := HQ.out; omega
            have h4n : decide (4 < cn) = false := decide_eq_false (by omega)
            have h4m : decide ((4 : Int) < cn) = false := decide_eq_false (by omega)
            go_wp2_with fail
            refine HEN.out.mono ?_
            rintro e wz ⟨rfl, hbz⟩
            have HY := Lib.hid (And.intro (HX.out.1.on hbz) (HEA.out.1.on hbz))
            clear hbz HX
            by_cases he : ee = 0
            · have HCK := refCheck_any { m0 with ents := es } A' c' wz HY.out.2 (by show es.length ≤ _; rw [HEA.out.2.1]; omega) (by show m0.kind < 256; rw [← HM0.out]; exact hl2) HEA.out.2.2.1
              have hval : Msg.val { m0 with ents := es } (.slice A' ({ m0 with ents := es } : Msg).ents.length c') = .agg (m0.cells (.slice A' q c')).toArray := by
                show Msg.val _ (.slice A' es.length c') = _
                rw [HEA.out.2.1]; rfl
              rw [hval] at HCK
              obtain ⟨ck, hck⟩ : ∃ ck, ({ m0 with ents := es } : Msg).check = ck := ⟨_, rfl⟩
              rw [hck] at HCK HRR
              have HCK2 := Lib.hid HCK
              clear HCK hval hck
              subst he
              go_upto_region 27 with (fail)
              go_wp2_with (refine load_row (by rfl) TM (.tmp 6) rfl gm rfl TM _ (0, 0) _ HY.out.1.msg Try.underlying28 rfl (info_msg _ _) ?_)
              refine HCK2.out.mono ?_
              rintro e wy ⟨rfl, hby⟩
              have HYY := Lib.hid (And.intro (HY.out.1.on hby) (HY.out.2.on hby))
              clear hby HY
              by_cases hc0 : ck = 0
              · subst hc0
                go_wp2_with (first | (refine wpList_load_row rfl TM (.tmp 6) rfl gm rfl TM _ (0, 0) _ HYY.out.1.msg Try.underlying28 rfl (info_msg _ _) ?_) | (refine wpList_store_row rfl TM (.tmp 2) (.tmp 138) rfl g (m0.cells (.slice A' q c')).toArray rfl rfl TM _ HYY.out.1.box (info_msg _ _) rfl (cells_one _ _ _ _) ?_))
                have hb : MB (wy.setRow g (m0.cells (.slice A' q c')).toArray) g m0 (.slice A' q c') := setRow_heap _ _ _ _ _ _ HYY.out.1.box
                have hr : readR s = ({ m0 with ents := es }, 0, 0) := by rw [HRR.out, if_neg (by simp), if_neg (by simp; omega)]
                refine bodyPost_ret (v := .tuple #[m0.val (.slice A' q c'), .int .i64 (0 : Nat), .int .i64 (0 : Nat)]) (results_rtt rfl _ _ g _ _ _ rfl rfl rfl (load_msg hb)) rfl ⟨A', c', ?_, ?_, HYY.out.1.up.trans (below_setRow wy g _ HYY.out.1.b1)⟩
                · rw [hr]
                  show _ = Ending.returned (.tuple #[Msg.val { m0 with ents := es } (.slice A' es.length c'), _, _])
                  rw [HEA.out.2.1]; rfl
                · rw [hr]
                  exact HYY.out.2.row (fun ad e => by have := HEA.out.2.2.2 ad e; have := HGG.out.2; omega) _
              · have hc1 : ((ck : Int) != 0) = true := by rw [bne_iff_ne]; omega
                go_wp2_with (refine wpList_store_row rfl TM (.tmp 2) (.tmp 137) rfl g (zeroMsg.cells A0).toArray rfl rfl TM _ HYY.out.1.box (info_msg _ _) rfl (cells_one _ _ _ _) ?_)
                have hb : MB (wy.setRow g (zeroMsg.cells A0).toArray) g zeroMsg A0 := setRow_heap _ _ _ _ _ _ HYY.out.1.box
                exact bodyPost_ret (v := .tuple #[zeroMsg.val A0, .int .i64 (7 : Nat), .int .i64 (0 : Nat)]) (results_rtt rfl _ _ g _ _ _ rfl rfl rfl (load_msg hb)) rfl (HZZ.out _ 7 0 (by rw [HRR.out, if_neg (by simp), if_pos (.inr hc0)]) hb (HYY.out.1.up.trans (below_setRow wy g _ HYY.out.1.b1)))
            · have he1 : ((ee : Int) != 0) = true := by rw [bne_iff_ne]; omega
              go_wp2_with (refine wpList_store_row rfl TM (.tmp 2) (.tmp 127) rfl g (zeroMsg.cells A0).toArray rfl rfl TM _ HY.out.1.box (info_msg _ _) rfl (cells_one _ _ _ _) ?_)
              have hb : MB (wz.setRow g (zeroMsg.cells A0).toArray) g zeroMsg A0 := setRow_heap _ _ _ _ _ _ HY.out.1.box
              exact bodyPost_ret (v := .tuple #[zeroMsg.val A0, .int .i64 (ee : Nat), .int .i64 (pp : Nat)]) (results_rtt rfl _ _ g _ _ _ rfl rfl rfl (load_msg hb)) rfl (HZZ.out _ ee pp (by rw [HRR.out, if_pos he]) hb (HY.out.1.up.trans (below_setRow wz g _ HY.out.1.b1)))
          · have hq44 : q = 4 := by have := HQ.out; omega
            have hqc2 : (q : Int) < cn := by omega
            have hq4' : ¬ (q : Int) < 4 := by omega
            have h4n : (4 : Int) < cn := by omega
            clear hq44
            go_wp2_with fail
            refine HEN.out.mono ?_
            rintro e wz ⟨rfl, hbz⟩
            have HY := Lib.hid (And.intro (HX.out.1.on hbz) (HEA.out.1.on hbz))
            clear hbz HX
            by_cases he : ee = 0
            · subst he
              go_wp2_with (refine wpList_store_row rfl TM (.tmp 2) (.tmp 137) rfl g (zeroMsg.cells A0).toArray rfl rfl TM _ HY.out.1.box (info_msg _ _) rfl (cells_one _ _ _ _) ?_)
              have hb : MB (wz.setRow g (zeroMsg.cells A0).toArray) g zeroMsg A0 := setRow_heap _ _ _ _ _ _ HY.out.1.box
              exact bodyPost_ret (v := .tuple #[zeroMsg.val A0, .int .i64 (7 : Nat), .int .i64 (0 : Nat)]) (results_rtt rfl _ _ g _ _ _ rfl rfl rfl (load_msg hb)) rfl (HZZ.out _ 7 0 (by rw [HRR.out, if_neg (by simp), if_pos (.inl (by omega))]) hb (HY.out.1.up.trans (below_setRow wz g _ HY.out.1.b1)))
            · have he1 : ((ee : Int) != 0) = true := by rw [bne_iff_ne]; omega
              go_wp2_with (refine wpList_store_row rfl TM (.tmp 2) (.tmp 127) rfl g (zeroMsg.cells A0).toArray rfl rfl TM _ HY.out.1.box (info_msg _ _) rfl (cells_one _ _ _ _) ?_)
              have hb : MB (wz.setRow g (zeroMsg.cells A0).toArray) g zeroMsg A0 := setRow_heap _ _ _ _ _ _ HY.out.1.box
              exact bodyPost_ret (v := .tuple #[zeroMsg.val A0, .int .i64 (ee : Nat), .int .i64 (pp : Nat)]) (results_rtt rfl _ _ g _ _ _ rfl rfl rfl (load_msg hb)) rfl (HZZ.out _ ee pp (by rw [HRR.out, if_pos he]) hb (HY.out.1.up.trans (below_setRow wz g _ HY.out.1.b1)))
end Go.Proofs.Ytbapifbahhjfgaa
