/- Spread where it starts nobody. -/
import Derived.Test.YtlddeagolhdieaaHubWorks
namespace Go.Proofs.Ytlddeagolhdieaa
open Go.RowKit Go.MuLone Go.Conc

set_option maxRecDepth 100000
set_option maxHeartbeats 4000000
theorem spread_nine (A : Option Addr) (c : Nat) (w : World) : Calls Try.prog 23 #[.slice A 9 c, .slice none 0 0] w fun e w' => e = .returned (.tuple #[.slice none 0 0, .int .i64 3]) ∧ w' = w := by
  go_enter Try.func23, Try.ntmps23
  go_wp2_with fail
  exact bodyPost_ret (results_tmp2 rfl _ _ _) rfl ⟨rfl, rfl⟩
theorem spread_many (A : Option Addr) (c : Nat) (w : World) : Calls Try.prog 23 #[.slice none 0 0, .slice A 65 c] w fun e w' => e = .returned (.tuple #[.slice none 0 0, .int .i64 3]) ∧ w' = w := by
  go_enter Try.func23, Try.ntmps23
  go_wp2_with fail
  exact bodyPost_ret (results_tmp2 rfl _ _ _) rfl ⟨rfl, rfl⟩
theorem spread_full (g c c' : Nat) (A' : Option Addr) (w : World) (k0 : w.cell? ⟨g, 0, none⟩ = some (.slice A' 4097 c')) : Calls Try.prog 23 #[.slice (some ⟨g, 0, none⟩) 1 c, .slice none 0 0] w fun e w' => e = .returned (.tuple #[.slice none 0 0, .int .i64 8]) ∧ w' = w := by
  go_enter Try.func23, Try.ntmps23
  go_wp2_with fail
  go_loopg [29, 7] (2 : Nat) (fun k v29 v7 wr => k = 2 ∧ v29 = .int .i64 0 ∧ wr = w)
  case atStart => exact ⟨rfl, rfl, rfl⟩
  case round =>
    obtain ⟨rfl, rfl, rfl⟩ := hrel
    go_wp2_with fail
    exact bodyPost_ret (results_tmp2 rfl _ _ _) rfl ⟨rfl, rfl⟩

theorem load64u (b o : Nat) (x : Int) (w : World) (h : w.cell? ⟨b, o, none⟩ = some (.int .u64 x)) :
    Calls Try.prog 48 #[.pointer (some ⟨b, o, none⟩)] w fun e w' => e = .returned (.int .u64 x) ∧ w' = w := by
  have hld := run_call_load (P := Try.prog) Try.func67 (by kernel_rfl) (by kernel_rfl) (by kernel_rfl) .u64 (by kernel_rfl) h
  go_enter Try.func48, Try.ntmps48
  go_wp2_with fail
  go_ret
  exact ⟨rfl, rfl⟩
theorem wait_any (g : Nat) (w : World) (k0 : w.cell? ⟨g, 0, none⟩ = some (.int .u64 0)) : Calls Try.prog 35 #[.pointer (some ⟨g, 0, none⟩)] w fun e w' => e = .returned (.tuple #[]) ∧ w' = w := by
  have hdis : ∀ W, (callFunc 47 #[]).run Try.prog W = .ok (.value (.tuple #[])) W := fun W => disable muLib W
  have hen : ∀ W, (callFunc 49 #[]).run Try.prog W = .ok (.value (.tuple #[])) W := fun W => enable muLib W
  have hacq : ∀ W, (callFunc 50 #[.pointer (some ⟨g, 0, none⟩)]).run Try.prog W = .ok (.value (.tuple #[])) W := fun W => acquire muLib ⟨g, 0, none⟩ W
  have HL := Lib.hid (load64u g 0 0 w k0)
  go_enter Try.func35, Try.ntmps35
  have hcv : (convert 107 112 (.pointer (some ⟨g, 0, none⟩))).run Try.prog w = .ok (.pointer (some ⟨g, 0, none⟩)) w := run_convert_to_unsafe Try.underlying107 Try.underlying112 (by kernel_rfl) k0
  go_wp2_with fail
  go_loopg [2, 3] (2 : Nat) (fun k v2 v3 wr => k = 2 ∧ wr = w)
  case atStart => exact ⟨rfl, rfl⟩
  case round =>
    obtain ⟨rfl, rfl⟩ := hrel
    go_wp2_with fail
    refine HL.out.mono ?_
    rintro e w2 ⟨rfl, rfl⟩
    go_wp2_with fail
    exact bodyPost_ret (results_none rfl _ _ _) rfl ⟨rfl, rfl⟩
theorem size_alloc' (W : World) (o : Obj) : (W.alloc o).heap.size = W.heap.size + 1 := by unfold World.alloc; simp
/-- what Spread makes ahead of its goroutines -/
def mid (w1 : World) (p : Value) : World := ((((w1.alloc (.cells #[p] 25)).alloc (.cells #[] 27)).alloc (.cells #[.slice (some ⟨w1.heap.size + 1, 0, none⟩) 0 0] 56)).alloc
              (.chan 0 #[] false 0 0 false)).alloc (.cells #[.chan (some (w1.heap.size + 1 + 1 + 1))] TCh)
theorem mid_size (w1 : World) (p : Value) : (mid w1 p).heap.size = w1.heap.size + 1 + 1 + 1 + 1 + 1 := by unfold mid; simp only [size_alloc']
theorem mid_on (w1 : World) (p : Value) : Below w1.heap.size w1 (mid w1 p) := by
  unfold mid
  refine ((((((Below.refl _ _).alloc (Nat.le_refl _) _).alloc ?_ _).alloc ?_ _).alloc ?_ _).alloc ?_ _) <;> simp only [size_alloc'] <;> omega
theorem mid_out (w1 : World) (p : Value) : (mid w1 p).heap[w1.heap.size + 1 + 1]? = some (.cells #[.slice (some ⟨w1.heap.size + 1, 0, none⟩) 0 0] 56) := by
  unfold mid
  rw [heap_alloc_old _ _ (by simp only [size_alloc']; omega), heap_alloc_old _ _ (by simp only [size_alloc']; omega)]
  have h := heap_alloc_new ((w1.alloc (.cells #[p] 25)).alloc (.cells #[] 27)) (.cells #[.slice (some ⟨w1.heap.size + 1, 0, none⟩) 0 0] 56)
  simp only [size_alloc'] at h
  exact h
theorem spread_none (w : World) : Calls Try.prog 23 #[.slice none 0 0, .slice none 0 0] w fun e w' => ∃ A c, e = .returned (.tuple #[.slice A 0 c, .int .i64 0]) ∧ Below w.heap.size w w' := by
  have hmc := mkCh
  have HN := Lib.hid (new_any w)
  go_enter Try.func23, Try.ntmps23
  go_wp2_with fail
  go_loopg [29, 7] (2 : Nat) (fun k v29 v7 wr => k = 2 ∧ v29 = .int .i64 0 ∧ wr = w)
  case atStart => exact ⟨rfl, rfl, rfl⟩
  case round =>
    obtain ⟨rfl, rfl, rfl⟩ := hrel
    go_wp2_with fail
    go_loopg [39, 9] (2 : Nat) (fun k v39 v9 ws => k = 2 ∧ v39 = .int .i64 0 ∧ ws = wr)
    case atStart => exact ⟨rfl, rfl, rfl⟩
    case round =>
      obtain ⟨rfl, rfl, rfl⟩ := hrel
      go_wp2_with fail
      refine HN.out.mono ?_
      rintro e w1 ⟨S, rfl, H, hS, hb⟩
      have HH := Lib.hid (And.intro H (And.intro hS hb))
      clear H hS hb HN
      have hms : ∀ W, (Instr.makeSlice 56 (.int .i64 0) (.int .i64 0)).run Try.prog W = .ok (.slice (some ⟨W.heap.size, 0, none⟩) 0 0) (W.alloc (.cells #[] 27)) := fun W => by kernel_rfl
      go_wp2_with fail
      change Calls _ _ _ ((mid w1 (.pointer (some ⟨wr.heap.size, 0, none⟩))).alloc (.cells #[.int .i64 0] 78)) _
      have hM := Lib.hid (And.intro (mid_size w1 (.pointer (some ⟨wr.heap.size, 0, none⟩))) (And.intro (mid_on w1 (.pointer (some ⟨wr.heap.size, 0, none⟩))) (mid_out w1 (.pointer (some ⟨wr.heap.size, 0, none⟩)))))
      generalize mid w1 (.pointer (some ⟨wr.heap.size, 0, none⟩)) = M at *
      have hk := heap_alloc_new M (.cells #[.int .i64 0] 78)
      rw [hM.out.1] at hk
      refine (store64_any (w1.heap.size + 1 + 1 + 1 + 1 + 1) 0 0 0 _ (by rw [cell_of_row _ _ 0 _ _ _ hk]; rfl) (frozen_of_row _ _ 0 _ _ hk)).mono ?_
      have bM := below_new M (.cells #[.int .i64 0] 78)
      have hos := off_set (M.alloc (.cells #[.int .i64 0] 78)) (w1.heap.size + 1 + 1 + 1 + 1 + 1) 0 (.int .i64 0)
      rintro e w2 ⟨rfl, hw2⟩
      rw [← hw2] at hos
      have hb2 : Below w1.heap.size w1 w2 := (hM.out.2.1.trans (bM.mono hM.out.2.1.size)).trans (hos.below (Nat.le_trans hM.out.2.1.size bM.size) (fun k hk => by simp only [List.mem_singleton] at hk; omega))
      have ho2 : w2.heap[w1.heap.size + 1 + 1]? = some (.cells #[.slice (some ⟨w1.heap.size + 1, 0, none⟩) 0 0] 56) := by
        rw [hos.block _ (by rw [size_alloc', hM.out.1]; omega) (by simp only [List.mem_singleton]; omega), bM.block _ (by rw [hM.out.1]; omega)]
        exact hM.out.2.2
      have HO := Lib.hid (And.intro hb2 ho2)
      clear hos hw2 bM hk hM hb2 ho2
      go_wp2_with fail
      go_loopg [78, 14] (2 : Nat) (fun k v39 v9 ws => k = 2 ∧ v39 = .int .i64 0 ∧ ws = w2)
      case atStart => exact ⟨rfl, rfl, rfl⟩
      case round =>
        obtain ⟨rfl, rfl, hww⟩ := hrel
        replace hww := hww.symm
        subst hww
        go_wp2_with fail
        go_loopg [87, 17] (2 : Nat) (fun k v87 v17 ws => k = 2 ∧ v87 = .int .i64 0 ∧ ws = w2.alloc (.cells #[.int .u64 0, .int .u32 0] 99))
        case atStart => exact ⟨rfl, rfl, rfl⟩
        case round =>
          obtain ⟨rfl, rfl, hwr⟩ := hrel
          have hg := heap_alloc_new w2 (.cells #[.int .u64 0, .int .u32 0] 99)
          have b3 := below_new w2 (.cells #[.int .u64 0, .int .u32 0] 99)
          rw [← hwr] at hg b3
          clear hwr
          have HG := Lib.hid (wait_any w2.heap.size _ (by rw [cell_of_row _ _ 0 _ _ _ hg]; rfl))
          have hl := lt_of_block HO.out.2
          have ko := cell_of_row _ _ 0 _ _ _ ((b3.block _ hl).trans HO.out.2)
          have HB := Lib.hid (HO.out.1.trans (b3.mono HO.out.1.size))
          clear hg b3 hl
          go_wp2_with fail
          refine HG.out.mono ?_
          rintro e w3 ⟨rfl, rfl⟩
          go_wp2_with fail
          refine bodyPost_ret (results_tmp2 rfl _ _ _) rfl ⟨_, _, rfl, ?_⟩
          exact HH.out.2.2.trans (HB.out.mono HH.out.2.2.size)
end Go.Proofs.Ytlddeagolhdieaa
