/- frame.All's closure: it hands out all frames that s begins with, in their order, or stops where a round says so. -/
import Derived.RangeFuncNested
import Derived.RangeFuncBound
import Derived.RangeFuncCalls
import Derived.RangeFuncLeaves
import Derived.Shelf.Abstract
import Derived.Shelf.RegionOpen
import Derived.WalkKit
import Derived.OwnWalkIn
import Derived.TacticsInMore
import Derived.LoopNIn
import Derived.LoopIn
import Derived.Test.YtcgojpdgcoddnaaFrameWorks
namespace Go.Proofs.Ytcgojpdgcoddnaa
open Go.RowKit Go.Shelf

attribute [local go_sem] Oper.semAt_some

namespace FM
/-- the frames from a place on: each with its place -/
def chunks : Nat → List UInt8 → Nat → List (Nat × List UInt8)
  | 0, _, _ => []
  | k + 1, s, a => if (take (s.drop a)).2.2 = 0 then (a, (take (s.drop a)).1) :: chunks k s (a + (take (s.drop a)).2.1) else []

theorem take_ok (s : List UInt8) (h : (take s).2.2 = 0) : (take s).2.1 = (take s).1.length + 12 ∧ (take s).2.1 ≤ s.length := by
  unfold take at h ⊢
  split
  · rename_i h1; rw [if_pos h1] at h; simp at h
  · rename_i h1
    rw [if_neg h1] at h
    split
    · rename_i h2; rw [if_pos h2] at h; simp at h
    · rename_i h2
      rw [if_neg h2] at h
      split
      · rename_i h3; rw [if_pos h3] at h; simp at h
      · rename_i h3
        rw [if_neg h3] at h
        split
        · rename_i h4; rw [if_pos h4] at h; simp at h
        · rename_i h4
          simp only [List.length_take, List.length_drop]
          omega
end FM

/-- what a round keeps: block b -/
def KBox (b : Nat) (W W' : World) : Prop := W.heap.size ≤ W'.heap.size ∧ W'.heap[b]? = W.heap[b]?
theorem KBox.trans {b : Nat} {A B C : World} (h : KBox b A B) (k : KBox b B C) : KBox b A C := ⟨Nat.le_trans h.1 k.1, k.2.trans h.2⟩
theorem KBox.put {b B : Nat} (hb : b < B) (W : World) (l : Nat) (o o' : Obj) (hl : B ≤ l) (_ : W.heap[l]? = some o) (_ : o.isCells = false) (_ : o.isWalk = false) : KBox b W (W.putObj l o') :=
  ⟨by simp, World.putObj_heap_other (by omega)⟩

set_option maxRecDepth 100000 in
set_option maxHeartbeats 4000000 in
theorem all1_in (n : Nat) (hn : 1 ≤ n) (l Bn : Nat) (s : ByteArray) (hs : s.size ≤ 4611686018427387904) (J Jx : List (Nat × List UInt8) → World → Prop)
    (hY : ∀ pre x W, J pre W → pre.length < (FM.chunks (s.size + 1) s.data.toList 0).length → YieldAt Fence.wide (n - 1) Try.prog l #[.int .i64 x.1, .string (bs x.2)] W fun e W' =>
      (e = .returned (.bool true) ∧ J (pre ++ [x]) W' ∧ KBox Bn W W') ∨ (e = .returned (.bool false) ∧ Jx (pre ++ [x]) W'))
    (W : World) (hJ : AbidesFrom W.heap.size J) (hc : W.cell? ⟨Bn, 0, none⟩ = some (.string s)) (h0 : J [] W) :
    CallsIn Fence.wide n Try.prog 24 #[.func (.yield l) #[] #[], .pointer (some ⟨Bn, 0, none⟩)] W fun e W' => (∃ v, e = .returned v) ∧
      ((∃ ys, ys = FM.chunks (s.size + 1) s.data.toList 0 ∧ J ys W') ∨ (∃ pre, pre <+: FM.chunks (s.size + 1) s.data.toList 0 ∧ Jx pre W')) := by
  generalize hxs : FM.chunks (s.size + 1) s.data.toList 0 = xs at hY ⊢
  have HXS := Lib.hid hxs; clear hxs
  refine callsIn_of_wp Try.func24 rfl trivial ?_ rfl
  simp only [Try.ntmps24, List.size_toArray, List.length_cons, List.length_nil, Nat.reduceAdd, Nat.reduceSub, Array.replicate_succ, Array.replicate_zero, List.push_toArray, List.append_toArray, List.nil_append, List.cons_append]
  gi_wp2
  gi_loopw [3, 4, 5, 6, 7] (fun i _ _ _ _ wr => ∃ (k a : Nat) (pre : List (Nat × List UInt8)), a ≤ s.size ∧ s.size < a + k ∧ i = .int .i64 a ∧ xs = pre ++ FM.chunks k s.data.toList a ∧ wr.cell? ⟨Bn, 0, none⟩ = some (.string s) ∧ J pre wr)
    (fun i _ _ _ _ _ => s.size + 1 - (intOf i).toNat)
  case atStart => exact ⟨s.size + 1, 0, [], by omega, by omega, rfl, HXS.out.symm, hc, h0⟩
  case round =>
    obtain ⟨k, a, pre, hk, hka, rfl, hx, hcr, hJs⟩ := hrel
    have e1 : (0 : Int) ≤ a := by omega
    have e2 : (a : Int) ≤ s.size := by omega
    gi_wp2_with fail
    have hxt : (s.extract a s.size).data.toList = s.data.toList.drop a := by
      rw [Lib.extract_data, List.take_of_length_le (by rw [List.length_drop]; exact Nat.le_refl _)]
    have hok := FM.take_ok (s.data.toList.drop a)
    have hdl : (s.data.toList.drop a).length = s.size - a := by rw [List.length_drop]; rfl
    rw [hdl] at hok
    obtain ⟨k, rfl⟩ : ∃ k', k = k' + 1 := ⟨k - 1, by omega⟩
    simp only [FM.chunks] at hx
    have hT := take_any (s.extract a s.size) wr (by rw [ByteArray.size_extract]; omega)
    rw [hxt] at hT
    generalize hr : FM.take (s.data.toList.drop a) = r at *
    obtain ⟨p, m, er⟩ := r
    simp only [] at hok hx
    have HX := Lib.hid hx; have HOK := Lib.hid hok
    clear hx hok hxt hdl hr
    refine ⟨trivial, (callsIn_wide.2 hT).mono ?_⟩
    rintro e w2 ⟨rfl, hb2⟩
    simp only [tookV]
    have hJ2 : J pre w2 := hJ pre wr w2 none hJs ⟨hb2.os, hb2.tape, hb2.output, hb2.size, fun i hi _ => hb2.block i hi⟩ (fun r h => by cases h)
    have hc2 : w2.cell? ⟨Bn, 0, none⟩ = some (.string s) := (hb2.cell (World.block_lt_of_cell? wr _ hcr)).trans hcr
    clear hT hb2 hJs hcr
    by_cases he : er = 0
    · subst he
      obtain ⟨hm1, hm2⟩ := HOK.out rfl
      have hx2 := HX.out
      rw [if_pos rfl] at hx2
      obtain ⟨fn, tmps, assign, body, hy, hR⟩ := hY pre (a, p) w2 hJ2 (by rw [hx2]; simp)
      have HX2 := Lib.hid hx2; have HM1 := Lib.hid hm1
      clear hx2 HX HOK hm1
      dsimp only at hy
      gi_wp2
      refine hR.mono ?_
      rintro e W3 (⟨rfl, hJ3, hk3⟩ | ⟨rfl, hJx3⟩)
      · have hc3 : W3.cell? ⟨Bn, 0, none⟩ = some (.string s) := (World.cell?_of_block (a := ⟨Bn, 0, none⟩) hk3.2).trans hc2
        clear hc2 hJ2 hy hR
        gi_wp2
        go_roundw
        case rel => exact ⟨k, a + m, pre ++ [(a, p)], by omega, by have := HM1.out; omega, by go_num, by rw [HX2.out]; simp, hc3, hJ3⟩
        case measure => have := HM1.out; simp [intOf]; omega
      · gi_wp2
        refine bodyPost_ret (results_none rfl _ _ _) rfl ?_
        exact ⟨⟨_, rfl⟩, .inr ⟨pre ++ [(a, p)], ⟨FM.chunks k s.data.toList (a + m), by rw [HX2.out]; simp⟩, hJx3⟩⟩
    · have hx2 := HX.out
      rw [if_neg he] at hx2
      have e3 : ((er : Int) != 0) = true := by rw [bne_iff_ne]; omega
      clear HX HOK
      gi_wp2
      refine bodyPost_ret (results_none rfl _ _ _) rfl ?_
      exact ⟨⟨_, rfl⟩, .inl ⟨pre, by rw [hx2]; simp, hJ2⟩⟩

/-- .. as the law of a range over a function wants it -/
theorem all_stops (n : Nat) (hn : 1 ≤ n) (Bn : Nat) (s : ByteArray) (hs : s.size ≤ 4611686018427387904) (w : World) (hc : w.cell? ⟨Bn, 0, none⟩ = some (.string s)) :
    SeqStopsK Fence.wide n Try.prog 24 #[.pointer (some ⟨Bn, 0, none⟩)] (fun x : Nat × List UInt8 => #[Value.int .i64 x.1, .string (bs x.2)]) (KBox Bn)
      (fun ys => ys = FM.chunks (s.size + 1) s.data.toList 0) (fun pre => pre <+: FM.chunks (s.size + 1) s.data.toList 0) (FM.chunks (s.size + 1) s.data.toList 0).length w := fun l J Jx W hW hJ _ hY h0 =>
  all1_in n hn l Bn s hs J Jx hY W hJ ((hW.cell (p := ⟨Bn, 0, none⟩) (World.block_lt_of_cell? w _ hc)).trans hc) h0

end Go.Proofs.Ytcgojpdgcoddnaa
