/- The walk of HubLimits. -/
import Derived.Test.YtlddeagolhdieaaHubLimits
namespace Go.Proofs.Ytlddeagolhdieaa
open Go.RowKit Go.MuLone Go.Conc

set_option maxRecDepth 100000
set_option maxHeartbeats 8000000
theorem hubLimits_walk (w : World) : Calls Try.prog 7 #[] w fun e w' => e = .returned (.bool true) ∧ Below w.heap.size w w' := by
  have HW := Lib.hid (works_any w)
  obtain ⟨o9, h9⟩ := make_nine
  obtain ⟨o65, h65⟩ := make_many
  obtain ⟨Z, hZ⟩ : ∃ Z, madeCells #[Value.int .i64 0, .string ByteArray.empty, .int .i64 0] (4096 * 3) = Z := ⟨_, rfl⟩
  obtain ⟨Y, hY⟩ : ∃ Y, madeCells #[Value.int .i64 0, .string ByteArray.empty, .int .i64 0] (4097 * 3) = Y := ⟨_, rfl⟩
  have m1 : ∀ W : World, (Instr.makeSlice THs (.int .i64 4096) (.int .i64 4096)).run Try.prog W = .ok (.slice (some ⟨W.heap.size, 0, none⟩) 4096 4096) (W.alloc (.cells Z THp)) := fun W => by rw [← hZ]; exact make_haps 4096 4096 rfl (by decide) W
  have m2 : ∀ W : World, (Instr.makeSlice THs (.int .i64 4097) (.int .i64 4097)).run Try.prog W = .ok (.slice (some ⟨W.heap.size, 0, none⟩) 4097 4097) (W.alloc (.cells Y THp)) := fun W => by rw [← hY]; exact make_haps 4097 4097 rfl (by decide) W
  obtain ⟨L, hL⟩ : ∃ L, List.replicate 4096 z0 = L := ⟨_, rfl⟩
  have hLl : L.length = 4096 := by rw [← hL, List.length_replicate]
  have HZ := Lib.hid (And.intro hZ (And.intro hL hLl))
  clear hZ hY hL hLl
  go_enter Try.func7, Try.ntmps7
  go_wp2_with fail
  refine HW.out.mono ?_
  rintro e w0 ⟨rfl, hb0⟩
  have HB0 := Lib.hid hb0
  clear hb0 HW
  go_wp2_with fail
  refine (new_any w0).mono ?_
  rintro e w1 ⟨S, rfl, H, hS, hb⟩
  have HH : Hid (On w w1 w0.heap.size w0.heap.size S [] false) := Lib.hid ⟨H, (hS 0 (by decide)).1, (hS 0 (by decide)).2.1, HB0.out.trans (hb.mono HB0.out.size), HB0.out.size, hb.size⟩
  clear H hS hb
  go_wp2_with fail
  have b1 := below_new w1 (.cells Z THp)
  have s1 := zero_src w1 4096 (S 0).b (HH.out.hub.st 0 (by decide)).lt
  rw [HZ.out.1, HZ.out.2.1] at s1
  refine (add_on (w := w) _ L 4096 4096 HZ.out.2.2.symm (HH.out.more b1) s1 (by rw [HZ.out.2.2]; decide)).mono ?_
  rintro e w2 ⟨rfl, S2, H2⟩
  have e2 : addE [] false L = 0 := by unfold addE; rw [HZ.out.2.2]; rfl
  have l2 : addL [] false L = L := by unfold addL; rw [HZ.out.2.2]; rfl
  rw [e2]
  rw [l2] at H2
  have HH2 := Lib.hid H2
  clear H2 b1 s1 e2 l2
  go_wp2_with fail
  refine (add_on (w := w) none [] 0 0 rfl HH2.out (src_none _ _) (by decide)).mono ?_
  rintro e w3 ⟨rfl, S3, H3⟩
  have e2 : addE L false [] = 0 := by unfold addE; rw [HZ.out.2.2]; rfl
  have l2 : addL L false [] = L := by unfold addL; rw [HZ.out.2.2]; exact List.append_nil _
  rw [e2]
  rw [l2] at H3
  have HH3 := Lib.hid H3
  clear H3 e2 l2
  go_wp2_with fail
  refine (add_on (w := w) _ [z0] 1 1 rfl (HH3.out.more (below_new w3 (.cells #[.int .i64 0, .string ByteArray.empty, .int .i64 0] THp))) (src_one w3 _ (HH3.out.hub.st 0 (by decide)).lt) (by decide)).mono ?_
  rintro e w4 ⟨rfl, S4, H4⟩
  have e2 : addE L false [z0] = 8 := by unfold addE; rw [HZ.out.2.2]; rfl
  have l2 : addL L false [z0] = L := by unfold addL; rw [HZ.out.2.2]; rfl
  rw [e2]
  rw [l2] at H4
  have HH4 := Lib.hid H4
  clear H4 e2 l2
  have HN := Lib.hid (stream_out 8 w4 HH4.out.hub (.inr (by decide)))
  go_wp2_with fail
  refine (add_no _ 8 2 none 0 0 w4 HN (.inr rfl)).mono ?_
  rintro e w5 ⟨rfl, rfl⟩
  clear HN
  go_wp2_with fail
  refine (close_on (w := w) HH4.out).mono ?_
  rintro e w6 ⟨rfl, S6, H6⟩
  have HH6 := Lib.hid H6
  clear H6
  rw [show (if false = true then (9 : Int) else 0) = 0 from rfl]
  go_wp2_with fail
  refine (add_on (w := w) _ [z0] 1 1 rfl (HH6.out.more (below_new w6 (.cells #[.int .i64 0, .string ByteArray.empty, .int .i64 0] THp))) (src_one w6 _ (HH6.out.hub.st 0 (by decide)).lt) (by decide)).mono ?_
  rintro e w7 ⟨rfl, S7, H7⟩
  rw [show addE L true [z0] = 9 from rfl]
  have HH7 : Hid (On w w7 w0.heap.size w0.heap.size S7 L true) := Lib.hid H7
  clear H7
  go_wp2_with fail
  refine (close_on (w := w) HH7.out).mono ?_
  rintro e w8 ⟨rfl, S8, H8⟩
  have HH8 := Lib.hid H8
  clear H8
  rw [show (if true = true then (9 : Int) else 0) = 9 from rfl]
  go_wp2_with fail
  refine (spread_nine _ 9 _).mono ?_
  rintro e w9 ⟨rfl, hw9⟩
  have HH9 : Hid (On w w9 w0.heap.size w0.heap.size S8 L true) := Lib.hid (by rw [hw9]; exact HH8.out.more (below_new w8 _))
  clear hw9
  go_wp2_with fail
  refine (spread_many _ 65 _).mono ?_
  rintro e w10 ⟨rfl, hw10⟩
  have HH10 : Hid (On w w10 w0.heap.size w0.heap.size S8 L true) := Lib.hid (by rw [hw10]; exact HH9.out.more (below_new w9 _))
  clear hw10
  go_wp2_with fail
  have k0 := heap_alloc_new (w10.alloc (.cells Y THp)) (.cells #[.slice (some ⟨w10.heap.size, 0, none⟩) 4097 4097] THs)
  have bb := (below_new w10 (.cells Y THp)).trans ((below_new (w10.alloc (.cells Y THp)) (.cells #[.slice (some ⟨w10.heap.size, 0, none⟩) 4097 4097] THs)).mono (below_new w10 (.cells Y THp)).size)
  rw [size_alloc'] at k0
  refine (spread_full (w10.heap.size + 1) 1 4097 (some ⟨w10.heap.size, 0, none⟩) _ (by rw [cell_of_row _ _ 0 _ _ _ k0]; rfl)).mono ?_
  rintro e w11 ⟨rfl, hw11⟩
  have HH11 : Hid (On w w11 w0.heap.size w0.heap.size S8 L true) := Lib.hid (by rw [hw11]; exact HH10.out.more bb)
  clear hw11 k0 bb
  go_wp2_with fail
  refine (spread_none w11).mono ?_
  rintro e w12 ⟨A, c, rfl, hb12⟩
  have HH12 : Hid (On w w12 w0.heap.size w0.heap.size S8 L true) := Lib.hid (HH11.out.more hb12)
  clear hb12
  go_wp2_with fail
  refine (hlen_any 0 w12 HH12.out.hub (by decide)).mono ?_
  rintro e w13 ⟨rfl, rfl⟩
  rw [HH12.out.l, HZ.out.2.2]
  go_wp2_with fail
  go_ret
  exact ⟨rfl, HH12.out.on⟩
end Go.Proofs.Ytlddeagolhdieaa
