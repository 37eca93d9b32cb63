/- The walk of MessageReads. -/
import Derived.Test.YtbapifbahhjfgaaMsgReadWalk
import Derived.Test.YtbapifbahhjfgaaMsgWorks
namespace Go.Proofs.Ytbapifbahhjfgaa
open Go.RowKit

set_option maxRecDepth 100000
set_option maxHeartbeats 8000000
theorem decode_len (s : ByteArray) : (decode s).1.ents.length ≤ 4 := by
  unfold decode
  split
  · exact Nat.zero_le _
  · split
    · exact Nat.zero_le _
    · show (rawMsg s.data.toList).ents.length ≤ 4
      rw [raw_len]; omega
theorem read_len (s : ByteArray) : (readR s).1.ents.length ≤ 4 := by
  unfold readR
  split
  · exact Nat.zero_le _
  · split
    · exact Nat.zero_le _
    · show (List.map _ (entsN s.data.toList (min (cnt s.data.toList) 4) (st8 s.data.toList)).1).length ≤ 4
      rw [List.length_map, entsN_len]; omega
/-- a message and a place, each in a box -/
structure Two (w W : World) (g : Nat) (m : Msg) (A : Option Addr) (V : Value) (a b : Nat) : Prop where
  box : MB W g m V
  spot : W.heap[g + 1]? = some (.cells #[.int .i64 a, .int .i64 b] TSp (0, 0))
  ents : EArg W W.heap.size A m.ents
  up : Below w.heap.size w W
theorem Two.on {w W W' : World} {g : Nat} {m : Msg} {A : Option Addr} {V : Value} {a b : Nat} (h : Two w W g m A V a b) (hb : Below W.heap.size W W') : Two w W' g m A V a b :=
  ⟨h.box.below hb, (hb.block _ (lt_of_block h.spot)).trans h.spot, h.ents.on hb, h.up.trans (hb.mono h.up.size)⟩
/-- what came in lies below, so a box that is turned above leaves it -/
theorem EArg.above {w W : World} {A : Option Addr} {l : List (Int × ByteArray)} (h : EArg w w.heap.size A l) (hb : Below w.heap.size w W) : EArg W W.heap.size A l := (h.below hb (Nat.le_refl _)).wide hb.size
theorem eql_spot (a b : Int) (w : World) : (binOp .eql TSp (.agg #[.int .i64 a, .int .i64 b]) (.agg #[.int .i64 a, .int .i64 b])).run Try.prog w = .ok (.bool true) w := by
  rw [run_eql_struct, run_equalIn_struct w 9999 TSp _ _ (by kernel_rfl) (by kernel_rfl)]
  simp [go_sem]
theorem messageReads_walk (s : ByteArray) (w : World) (hs : s.size ≤ 9223372036854775807) :
    Calls Try.prog 3 #[.string s] w fun e w' => e = .returned (.bool true) ∧ Below w.heap.size w w' := by
  have HW := Lib.hid (works_any w)
  go_enter Try.func3, Try.ntmps3
  go_wp2_with fail
  refine HW.out.mono ?_
  rintro e w0 ⟨rfl, hb0⟩
  have HB := Lib.hid hb0
  clear hb0 HW
  by_cases hbig : 16384 < s.size
  · have hbig1 : (16384 : Int) < s.size := by omega
    clear hbig
    go_wp2_with fail
    go_ret
    exact ⟨rfl, HB.out⟩
  · have hbig1 : ¬ (16384 : Int) < s.size := by omega
    have hsm : s.size ≤ 16384 := by omega
    clear hbig
    go_wp2_with fail
    refine (decode_any s w0 (by omega)).mono ?_
    rintro e w1 ⟨A, c, rfl, hea, hb1⟩
    obtain ⟨m, hm⟩ : ∃ m, (decode s).1 = m := ⟨_, rfl⟩
    obtain ⟨a, ha⟩ : ∃ a, (decode s).2.1 = a := ⟨_, rfl⟩
    obtain ⟨b, hb⟩ : ∃ b, (decode s).2.2 = b := ⟨_, rfl⟩
    obtain ⟨V, hV⟩ : ∃ V, Value.slice A m.ents.length c = V := ⟨_, rfl⟩
    have hz0 : MB (w1.alloc (.cells (zeroMsg.cells A0).toArray TM)) w1.heap.size zeroMsg A0 := heap_alloc_new w1 _
    have hbz := below_new w1 (.cells (zeroMsg.cells A0).toArray TM)
    have hbz2 := below_new (w1.alloc (.cells (zeroMsg.cells A0).toArray TM)) (.cells #[.int .i64 0, .int .i64 0] TSp)
    have hz1 := heap_alloc_new (w1.alloc (.cells (zeroMsg.cells A0).toArray TM)) (.cells #[.int .i64 0, .int .i64 0] TSp)
    rw [World.size_alloc] at hz1
    have hB1 := (hbz.trans (hbz2.mono hbz.size))
    have hM : MB ((w1.alloc (.cells (zeroMsg.cells A0).toArray TM)).alloc (.cells #[.int .i64 0, .int .i64 0] TSp)) w1.heap.size zeroMsg A0 := hz0.below hbz2
    rw [hm] at hea
    have HZ := Lib.hid (And.intro hM (And.intro hz1 (And.intro hB1 (And.intro hea hb1))))
    rw [hm, ha, hb, hV]
    have HV := Lib.hid hV
    have HD := Lib.hid (And.intro hm (And.intro ha hb))
    clear hm ha hb hV hz0 hbz hbz2 hz1 hB1 hM hea hb1
    unfold Msg.val
    have hS : ((((w1.alloc (.cells (zeroMsg.cells A0).toArray TM)).alloc (.cells #[.int .i64 0, .int .i64 0] TSp))).setRow w1.heap.size (m.cells V).toArray).heap[w1.heap.size + 1]? = some (.cells #[.int .i64 0, .int .i64 0] TSp (0, 0)) := (setRow_other _ _ _ _ (by omega)).trans HZ.out.2.1
    have HS := Lib.hid hS
    clear hS
    have hone : (m.cells V).toArray.all (·.oneCell') = true := by rw [← HV.out]; exact cells_one _ _ _ _
    go_upto_region 6 with (first | (refine wpList_store_row rfl TM (.tmp 3) (.tmp 16) rfl w1.heap.size (m.cells V).toArray rfl rfl TM _ HZ.out.1 (info_msg _ _) rfl hone ?_) | (refine wpList_store_row rfl TSp (.tmp 4) (.tmp 17) rfl (w1.heap.size + 1) #[.int .i64 (a : Nat), .int .i64 (b : Nat)] rfl rfl TSp _ HS.out (by kernel_rfl) rfl (spot_one _ _) ?_))
    have hT : Two w (((((w1.alloc (.cells (zeroMsg.cells A0).toArray TM)).alloc (.cells #[.int .i64 0, .int .i64 0] TSp))).setRow w1.heap.size (m.cells V).toArray).setRow (w1.heap.size + 1) #[.int .i64 (a : Nat), .int .i64 (b : Nat)]) w1.heap.size m A V a b := by
      have hb2 : Below w1.heap.size w1 (((((w1.alloc (.cells (zeroMsg.cells A0).toArray TM)).alloc (.cells #[.int .i64 0, .int .i64 0] TSp))).setRow w1.heap.size (m.cells V).toArray).setRow (w1.heap.size + 1) #[.int .i64 (a : Nat), .int .i64 (b : Nat)]) :=
        (HZ.out.2.2.1.trans (below_setRow _ w1.heap.size _ (Nat.le_refl _))).trans (below_setRow _ (w1.heap.size + 1) _ (by omega))
      have hb01 := HZ.out.2.2.2.2
      exact ⟨(setRow_other _ _ _ _ (by omega)).trans (setRow_heap _ _ _ _ _ _ HZ.out.1), setRow_heap _ _ _ _ _ _ HS.out, EArg.above HZ.out.2.2.2.1 hb2, (HB.out.trans (hb01.mono HB.out.size)).trans (hb2.mono (Nat.le_trans HB.out.size hb01.size))⟩
    have HT := Lib.hid hT
    clear hT HZ HS
    change Code.wp _ _ _ _ (((((w1.alloc (.cells (zeroMsg.cells A0).toArray TM)).alloc (.cells #[.int .i64 0, .int .i64 0] TSp))).setRow w1.heap.size (m.cells V).toArray).setRow (w1.heap.size + 1) #[.int .i64 (a : Nat), .int .i64 (b : Nat)])
    generalize ((((w1.alloc (.cells (zeroMsg.cells A0).toArray TM)).alloc (.cells #[.int .i64 0, .int .i64 0] TSp))).setRow w1.heap.size (m.cells V).toArray).setRow (w1.heap.size + 1) #[.int .i64 (a : Nat), .int .i64 (b : Nat)] = w2 at *
    generalize w1.heap.size = g at *
    go_wp2_with fail
    refine (read_any s w2 hsm).mono ?_
    rintro e w3 ⟨B, d, rfl, heb, hb3⟩
    obtain ⟨k, hk⟩ : ∃ k, (readR s).1 = k := ⟨_, rfl⟩
    have hra : (readR s).2.1 = a := by rw [(read_decode s).1]; exact HD.out.2.1
    have hrb : (readR s).2.2 = b := by rw [(read_decode s).1]; exact HD.out.2.2
    have hEq : m.Eqv k := by rw [← hk, ← HD.out.1]; exact (read_decode s).2.symm
    have hl1 : m.ents.length ≤ 4 := by rw [← HD.out.1]; exact decode_len s
    have hl2 : k.ents.length ≤ 4 := by rw [← hk]; exact read_len s
    rw [hk] at heb
    obtain ⟨U, hU⟩ : ∃ U, Value.slice B k.ents.length d = U := ⟨_, rfl⟩
    rw [hk, hra, hrb, hU]
    have hone2 : (k.cells U).toArray.all (·.oneCell') = true := by rw [← hU]; exact cells_one _ _ _ _
    have hz3 : MB (w3.alloc (.cells (zeroMsg.cells A0).toArray TM)) w3.heap.size zeroMsg A0 := heap_alloc_new w3 _
    have hbz3 := below_new w3 (.cells (zeroMsg.cells A0).toArray TM)
    have hb34 : Below w3.heap.size w3 ((w3.alloc (.cells (zeroMsg.cells A0).toArray TM)).setRow w3.heap.size (k.cells U).toArray) := hbz3.trans (below_setRow _ w3.heap.size _ (Nat.le_refl _))
    have HZ := Lib.hid (And.intro hz3 (And.intro ((HT.out.on hb3).on hb34) (And.intro (EArg.above heb hb34) (And.intro hEq (And.intro hl1 (And.intro hl2 hU))))))
    clear hk hra hrb hEq hl1 hl2 hU hz3 hbz3 hb34 heb hb3
    unfold Msg.val
    go_upto_region 7 with (refine wpList_store_row rfl TM (.tmp 5) (.tmp 21) rfl w3.heap.size (k.cells U).toArray rfl rfl TM _ HZ.out.1 (info_msg _ _) rfl hone2 ?_)
    have hK : MB ((w3.alloc (.cells (zeroMsg.cells A0).toArray TM)).setRow w3.heap.size (k.cells U).toArray) w3.heap.size k U := setRow_heap _ _ _ _ _ _ HZ.out.1
    have HY := Lib.hid (And.intro hK HZ.out.2)
    clear hK HZ HT
    change Code.wp _ _ _ _ ((w3.alloc (.cells (zeroMsg.cells A0).toArray TM)).setRow w3.heap.size (k.cells U).toArray)
    generalize (w3.alloc (.cells (zeroMsg.cells A0).toArray TM)).setRow w3.heap.size (k.cells U).toArray = w4 at *
    generalize w3.heap.size = g2 at *
    have HSA := same_any m k A B c d w4 HY.out.2.1.ents HY.out.2.2.1 (by have := HY.out.2.2.2.2.1; omega) (by have := HY.out.2.2.2.2.2.1; omega)
    rw [HV.out, HY.out.2.2.2.2.2.2] at HSA
    unfold Msg.val at HSA
    have HSB := Lib.hid HSA
    clear HSA
    have heq := eql_spot a b
    go_wp2_with (first | (refine wpList_load_row rfl TM (.tmp 3) rfl g rfl TM _ (0, 0) _ HY.out.2.1.box Try.underlying28 rfl (info_msg _ _) ?_) | (refine wpList_load_row rfl TM (.tmp 5) rfl g2 rfl TM _ (0, 0) _ HY.out.1 Try.underlying28 rfl (info_msg _ _) ?_))
    refine HSB.out.mono ?_
    rintro e w5 ⟨hs5, hb5⟩
    have h5 := HY.out.2.1.on hb5
    have k0 : w5.cell? ⟨g + 1, 0, none⟩ = some (.int .i64 (a : Nat)) := by rw [cell_of_row _ _ 0 _ _ _ h5.spot]; rfl
    have k1 : w5.cell? ⟨g + 1, 1, none⟩ = some (.int .i64 (b : Nat)) := by rw [cell_of_row _ _ 1 _ _ _ h5.spot]; rfl
    have H5 := Lib.hid h5.up
    rcases hs5 with ⟨rfl, _⟩ | ⟨_, hno⟩
    · clear h5 hb5
      go_wp2_with fail
      go_ret
      exact ⟨rfl, H5.out⟩
    · exact absurd HY.out.2.2.2.1 hno
end Go.Proofs.Ytbapifbahhjfgaa
