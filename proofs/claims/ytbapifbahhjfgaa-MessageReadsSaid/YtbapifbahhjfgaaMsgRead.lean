/- The document's Read: what stands while it reads. -/
import Derived.Test.YtbapifbahhjfgaaMsgReadMath
import Derived.Test.YtbapifbahhjfgaaMsgDecode
import Derived.Test.YtbapifbahhjfgaaMsgRefCheck
import Derived.Test.YtbapifbahhjfgaaWireRefRd2
import Derived.Test.YtbapifbahhjfgaaTabRegion
import Derived.Deep.LoopGhost
namespace Go.Proofs.Ytbapifbahhjfgaa
open Go.RowKit

set_option maxRecDepth 100000
abbrev TL : TypeId := 68
def lst (f : Nat → Int) : Array Value := #[.int .i64 (f 0), .int .i64 (f 1), .int .i64 (f 2), .int .i64 (f 3), .int .i64 (f 4), .int .i64 (f 5), .int .i64 (f 6), .int .i64 (f 7), .int .i64 (f 8), .int .i64 (f 9), .int .i64 (f 10), .int .i64 (f 11), .int .i64 (f 12), .int .i64 (f 13), .int .i64 (f 14)]
theorem lst_at (f : Nat → Int) (k : Nat) (hk : k < 15) : (lst f)[k]? = some (.int .i64 (f k)) := by
  have : k = 0 ∨ k = 1 ∨ k = 2 ∨ k = 3 ∨ k = 4 ∨ k = 5 ∨ k = 6 ∨ k = 7 ∨ k = 8 ∨ k = 9 ∨ k = 10 ∨ k = 11 ∨ k = 12 ∨ k = 13 ∨ k = 14 := by omega
  rcases this with rfl | rfl | rfl | rfl | rfl | rfl | rfl | rfl | rfl | rfl | rfl | rfl | rfl | rfl | rfl <;> rfl
theorem lst_set (f : Nat → Int) (k : Nat) (hk : k < 15) (v : Int) : (lst f).setIfInBounds k (.int .i64 v) = lst (fun i => if i = k then v else f i) := by
  have : k = 0 ∨ k = 1 ∨ k = 2 ∨ k = 3 ∨ k = 4 ∨ k = 5 ∨ k = 6 ∨ k = 7 ∨ k = 8 ∨ k = 9 ∨ k = 10 ∨ k = 11 ∨ k = 12 ∨ k = 13 ∨ k = 14 := by omega
  rcases this with rfl | rfl | rfl | rfl | rfl | rfl | rfl | rfl | rfl | rfl | rfl | rfl | rfl | rfl | rfl <;> rfl
/-- the reader, the message, the box of what is handed back -/
structure QS (w wr : World) (g gr gm : Nat) (s : ByteArray) (m : Msg) (A : Value) (st : WM.St) : Prop where
  box : MB wr g zeroMsg A0
  msg : MB wr gm m A
  rd : RQ wr gr s st
  up : Below w.heap.size w wr
  d1 : g ≠ gr
  d2 : g ≠ gm
  d3 : gr ≠ gm
  b1 : w.heap.size ≤ g
  b2 : w.heap.size ≤ gr
  b3 : w.heap.size ≤ gm
theorem QS.on {w wr w' : World} {g gr gm : Nat} {s : ByteArray} {m : Msg} {A : Value} {st : WM.St} (h : QS w wr g gr gm s m A st) (hb : Below wr.heap.size wr w') : QS w w' g gr gm s m A st :=
  ⟨h.box.below hb, h.msg.below hb, h.rd.below hb, h.up.trans (hb.mono h.up.size), h.d1, h.d2, h.d3, h.b1, h.b2, h.b3⟩
theorem QS.read {w wr w' : World} {g gr gm : Nat} {s : ByteArray} {m : Msg} {A : Value} {st st' : WM.St} (h : QS w wr g gr gm s m A st) (hr : RQ w' gr s st') (hg : wr.grownBy w' (some gr)) : QS w w' g gr gm s m A st' :=
  ⟨h.box.grown hg (fun e => h.d1 (by cases e; rfl)), h.msg.grown hg (fun e => h.d3 (by cases e; rfl)), hr, h.up.grown hg h.up.size (fun k e => by cases e; exact h.b2), h.d1, h.d2, h.d3, h.b1, h.b2, h.b3⟩
theorem QS.set {w wr : World} {g gr gm : Nat} {s : ByteArray} {m m' : Msg} {A A' : Value} {st : WM.St} (h : QS w wr g gr gm s m A st) (i : Nat) (v : Value) (hc : (m.cells A).set i v = m'.cells A') : QS w (wr.setCell ⟨gm, i, none⟩ v) g gr gm s m' A' st := by
  have hg : wr.grownBy (wr.setCell ⟨gm, i, none⟩ v) (some gm) := ⟨rfl, rfl, rfl, by simp, fun k _ hk => Below.heap_setCell _ _ _ _ (fun e => hk (by rw [e]))⟩
  exact ⟨h.box.grown hg (fun e => h.d2 (by cases e; rfl)), h.msg.set i v hc, h.rd.grown hg (fun e => h.d3 (by cases e; rfl)), h.up.grown hg h.up.size (fun k e => by cases e; exact h.b3), h.d1, h.d2, h.d3, h.b1, h.b2, h.b3⟩
theorem QS.row {w wr : World} {g gr gm : Nat} {s : ByteArray} {m m' : Msg} {A A' : Value} {st : WM.St} (h : QS w wr g gr gm s m A st) : QS w (wr.setRow gm (m'.cells A').toArray) g gr gm s m' A' st := by
  have hg : wr.grownBy (wr.setRow gm (m'.cells A').toArray) (some gm) := ⟨rfl, rfl, rfl, by simp, fun k _ hk => setRow_other _ _ _ _ (fun e => hk (by rw [e]))⟩
  exact ⟨h.box.grown hg (fun e => h.d2 (by cases e; rfl)), setRow_heap _ _ _ _ _ _ h.msg, h.rd.grown hg (fun e => h.d3 (by cases e; rfl)), h.up.grown hg h.up.size (fun k e => by cases e; exact h.b3), h.d1, h.d2, h.d3, h.b1, h.b2, h.b3⟩
theorem QS.cell {w wr : World} {g gr gm : Nat} {s : ByteArray} {m : Msg} {A : Value} {st : WM.St} (h : QS w wr g gr gm s m A st) (i : Nat) (v : Value) (hi : (m.cells A)[i]? = some v) : wr.cell? ⟨gm, i, none⟩ = some v := h.msg.cell i v hi
theorem QS.frozen {w wr : World} {g gr gm : Nat} {s : ByteArray} {m : Msg} {A : Value} {st : WM.St} (h : QS w wr g gr gm s m A st) (i : Nat) : wr.frozen? ⟨gm, i, none⟩ = false := frozen_of_row wr gm i _ TM h.msg
theorem QS.start (s : ByteArray) (w : World) : QS w (((w.alloc (.cells (zeroMsg.cells A0).toArray TM)).alloc (.cells #[.string s, .int .i64 0, .int .i64 0, .int .i64 0] TQ)).alloc (.cells (zeroMsg.cells A0).toArray TM)) w.heap.size (w.heap.size + 1) (w.heap.size + 1 + 1) s zeroMsg A0 (.ok 0) := by
  have h0 := heap_alloc_new w (.cells (zeroMsg.cells A0).toArray TM)
  have b0 := below_new w (.cells (zeroMsg.cells A0).toArray TM)
  generalize hW0 : w.alloc (.cells (zeroMsg.cells A0).toArray TM) = W0 at *
  have hs0 : W0.heap.size = w.heap.size + 1 := by rw [← hW0, World.size_alloc]
  have h1 := heap_alloc_new W0 (.cells #[.string s, .int .i64 0, .int .i64 0, .int .i64 0] TQ)
  have b1 := below_new W0 (.cells #[.string s, .int .i64 0, .int .i64 0, .int .i64 0] TQ)
  generalize hW1 : W0.alloc (.cells #[.string s, .int .i64 0, .int .i64 0, .int .i64 0] TQ) = W1 at *
  have hs1 : W1.heap.size = w.heap.size + 1 + 1 := by rw [← hW1, World.size_alloc, hs0]
  have h2 := heap_alloc_new W1 (.cells (zeroMsg.cells A0).toArray TM)
  have b2 := below_new W1 (.cells (zeroMsg.cells A0).toArray TM)
  rw [hs0] at h1
  rw [hs1] at h2
  have m0 : MB W0 w.heap.size zeroMsg A0 := h0
  have r1 : RQ W1 (w.heap.size + 1) s (.ok 0) := ⟨Nat.zero_le _, h1⟩
  exact ⟨(m0.below b1).below b2, h2, r1.below b2, (b0.trans (b1.mono (by omega))).trans (b2.mono (by omega)), by omega, by omega, by omega, by omega, by omega, by omega⟩
theorem whole_any (x : Nat) (w : World) (hx : x < 18446744073709551616) : Calls Try.prog 29 #[.int .u64 x] w fun e w' => e = .returned (.int .i64 (wholeN x)) ∧ w' = w := by
  unfold wholeN
  go_enter Try.func29, Try.ntmps29
  by_cases h : 1125899906842624 < x
  · have h1 : (1125899906842624 : Int) < x := by omega
    rw [if_pos h]
    go_wp2_with fail
    go_ret
    exact ⟨rfl, rfl⟩
  · have h1 : ¬ (1125899906842624 : Int) < x := by omega
    rw [if_neg h]
    go_wp2_with fail
    go_ret
    exact ⟨by simp, rfl⟩
theorem textR_len (l : List UInt8) (st : WM.St) : (WM.textR l 3500 st).1.length ≤ 3500 := by
  cases st with
  | bad e p => simp [WM.textR]
  | ok a =>
    cases hn : WM.num l 4 (.ok a) with
    | mk n st' =>
      cases st' with
      | bad e p => simp [WM.textR, hn]
      | ok c =>
        have hx : WM.textR l 3500 (.ok a) = (if (3500 : Int) < n then ([], .bad 3 a) else if l.length - c < n then ([], .bad 7 a) else ((l.drop c).take n, .ok (c + n))) := by simp only [WM.textR, hn]
        rw [hx]
        split
        · simp
        · split
          · simp
          · simp only [List.length_take]; omega
theorem entsN_size (l : List UInt8) (st : WM.St) : ∀ k, ∀ x ∈ (entsN l k st).1, x.2.size ≤ 3500
  | 0, x, h => by simp [entsN] at h
  | k + 1, x, h => by
    simp only [entsN, List.mem_append, List.mem_singleton] at h
    rcases h with h | rfl
    · exact entsN_size l st k x h
    · simp only [bs_sz]; exact textR_len _ _
theorem results_rtt {fn : Func} {p1 p2 p3 : Tmp} {t1 : TypeId} (h : fn.results = #[.cell p1 t1, .tmp p2, .tmp p3]) (tmps : Array Value) (W : World) (b : Nat) (X Y Z : Value)
    (h1 : tmps.getD p1 undef = .pointer (some ⟨b, 0, none⟩)) (h2 : tmps.getD p2 undef = Y) (h3 : tmps.getD p3 undef = Z) (l1 : (loadVar t1 ⟨b, 0, none⟩).run Try.prog W = .ok X W) :
    (results fn tmps).run Try.prog W = .ok (.tuple #[X, Y, Z]) W := by
  have h1' : tmps[p1]?.getD undef = .pointer (some ⟨b, 0, none⟩) := by simpa using h1
  have h2' : tmps[p2]?.getD undef = Y := by simpa using h2
  have h3' : tmps[p3]?.getD undef = Z := by simpa using h3
  simp [results, h, h1', h2', h3', asAddr, l1]
theorem info_msg (m : Msg) (A : Value) : (Try.prog.info? TM).map (·.size) = some (m.cells A).toArray.size := by
  show _ = some 22
  kernel_rfl
theorem load_msg {W : World} {b : Nat} {m : Msg} {A : Value} (h : MB W b m A) : (loadVar TM ⟨b, 0, none⟩).run Try.prog W = .ok (m.val A) W := run_loadVar_row W b TM TM (m.cells A).toArray (0, 0) _ h Try.underlying28 rfl (info_msg m A)
theorem QS.other {w wr w' : World} {g gr gm ge : Nat} {s : ByteArray} {m : Msg} {A : Value} {st : WM.St} (h : QS w wr g gr gm s m A st) (hg : wr.grownBy w' (some ge)) (h1 : g ≠ ge) (h2 : gr ≠ ge) (h3 : gm ≠ ge) (h4 : w.heap.size ≤ ge) : QS w w' g gr gm s m A st :=
  ⟨h.box.grown hg (fun e => h1 (by cases e; rfl)), h.msg.grown hg (fun e => h3 (by cases e; rfl)), h.rd.grown hg (fun e => h2 (by cases e; rfl)), h.up.grown hg h.up.size (fun k e => by cases e; exact h4), h.d1, h.d2, h.d3, h.b1, h.b2, h.b3⟩
theorem grown_set (w : World) (g i : Nat) (v : Value) : w.grownBy (w.setCell ⟨g, i, none⟩ v) (some g) := ⟨rfl, rfl, rfl, by simp, fun k _ hk => Below.heap_setCell _ _ _ _ (fun e => hk (by rw [e]))⟩
theorem QS.row2 {w wr w' : World} {g gr gm : Nat} {s : ByteArray} {m : Msg} {A : Value} {st : WM.St} {r : Option Nat} (h : QS w wr g gr gm s m A st) (hg : wr.grownBy w' r) (hr : ∀ k, r = some k → gm + 1 ≤ k) (h1 : gr < gm) (h2 : g < gm) : QS w w' g gr gm s m A st :=
  ⟨h.box.grown hg (fun e => by have := hr g e.symm; omega), h.msg.grown hg (fun e => by have := hr gm e.symm; omega), h.rd.grown hg (fun e => by have := hr gr e.symm; omega), h.up.grown hg h.up.size (fun k e => by have := hr k e; have := h.b3; omega), h.d1, h.d2, h.d3, h.b1, h.b2, h.b3⟩
end Go.Proofs.Ytbapifbahhjfgaa
