/- dragomanlaw03.works is true; the laws FramePuts, FrameSpoilt. -/
import Derived.Test.YtcgojpdgcoddnaaFrameTake
namespace Go.Proofs.Ytcgojpdgcoddnaa
open Go.RowKit

set_option maxHeartbeats 1000000 in
theorem all_any (s : ByteArray) (w : World) :
    Calls Try.prog 16 #[.string s] w fun e w' => e = .returned (.func (.func 24) #[] #[.pointer (some ⟨w.heap.size, 0, none⟩)]) ∧ w' = w.alloc (.cells #[.string s] 9) := by
  go_enter Try.func16, Try.ntmps16
  go_wp2
  go_ret
  exact ⟨rfl, rfl⟩

theorem run_equalIn_func (w : World) (d : Nat) (f : Fn) (a b : Array Value) :
    (Op.equalIn (d + 1) 39 (.func f a b) .nilFunc).run Try.prog w = .ok false w := by
  simp [Op.equalIn, run_underlying Try.underlying39]

theorem run_neq_func (f : Fn) (a b : Array Value) (w : World) : (binOp .neq 39 (.func f a b) .nilFunc).run Try.prog w = .ok (.bool true) w := by
  simp only [binOp]
  simp [Op.equal, Op.maxDepth, run_equalIn_func w 9999]

theorem below_new' (w : World) (o : Obj) : Below w.heap.size w (w.alloc o) := (Below.refl _ _).alloc (Nat.le_refl _) _

set_option maxRecDepth 100000 in
set_option maxHeartbeats 2000000 in
theorem works_true (w : World) : Calls Try.prog 8 #[] w fun e w' => e = .returned (.bool true) ∧ Below w.heap.size w w' := by
  have hz : (bs (FM.frame [97, 98])).size = 14 := by rw [bs_size, FM.frame_len]; rfl
  have ht : FM.take (bs (FM.frame [97, 98]) ++ ⟨#[120]⟩).data.toList = ([97, 98], 14, 0) := by
    have h := FM.take_frame [97, 98] [120] (by decide)
    rw [show (⟨#[120]⟩ : ByteArray) = bs [120] from rfl, bs_append, bs_list]
    exact h
  have hzz : (bs (FM.frame [97, 98]) ++ ⟨#[120]⟩).size ≤ 100 := by rw [ByteArray.size_append, hz]; decide
  have hk : bs [97, 98] = ⟨#[97, 98]⟩ := rfl
  go_enter Try.func8, Try.ntmps8
  go_wp2_with fail
  refine (put_any ⟨#[97, 98]⟩ _ (by decide)).mono ?_
  rintro e w1 ⟨rfl, hb1⟩
  rw [show (⟨#[97, 98]⟩ : ByteArray).data.toList = [97, 98] from rfl]
  generalize bs (FM.frame [97, 98]) = t at *
  have HT := Lib.hid ht; have HZ := Lib.hid hzz
  clear ht hzz
  go_wp2_with fail
  refine (take_any _ _ (by have := HZ.out; omega)).mono ?_
  rintro e w2 ⟨rfl, hb2⟩
  rw [HT.out]
  simp only [tookV]
  rw [hk]
  have hc2 := below_then hb1 hb2 (Nat.le_refl _)
  clear hb1 hb2 hk
  go_wp2_with fail
  refine (all_any _ _).mono ?_
  rintro e w3 ⟨rfl, rfl⟩
  have hnf := run_neq_func
  have hc3 := below_then hc2 (below_new' w2 (.cells #[.string t] 9)) (Nat.le_refl _)
  go_wp2_with fail
  go_ret
  exact ⟨rfl, hc3⟩

end Go.Proofs.Ytcgojpdgcoddnaa
