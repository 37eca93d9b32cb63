/- Print: the walk. -/
import Derived.Test.YtlfhjmdbkifciaaPatBackMath
import Derived.Test.YtlfhjmdbkifciaaPatGroupsA
import Derived.Deep.RegionHeld3
namespace Go.Proofs.Ytlfhjmdbkifciaa
open Go.RowKit PM

theorem bs_app (a b : List UInt8) : bs a ++ bs b = bs (a ++ b) := by
  apply ByteArray.ext
  rw [ByteArray.data_append]; simp [bs]

set_option maxRecDepth 100000 in
set_option maxHeartbeats 8000000 in
theorem print_any (kind : Int) (s : ByteArray) (w : World) (hs : s.size ≤ 9223372036854775807) :
    Calls Try.prog 26 #[.agg #[.int .i64 kind, .string s]] w fun e w' => e = .returned (.string (bs (printR kind s.data.toList))) ∧ Below w.heap.size w w' := by
  have hB := heap_alloc_new w (.cells #[.int .i64 kind, .string s] TPat)
  have HB := Lib.hid hB; have H0 := Lib.hid (below_new w (.cells #[.int .i64 kind, .string s] TPat))
  clear hB
  go_enter Try.func26, Try.ntmps26
  go_wp2_with fail
  generalize w.alloc (.cells #[.int .i64 kind, .string s] TPat) = w1 at *
  generalize hb0 : w.heap.size = b0 at HB ⊢
  refine (tree_or kind s w1 hs).mono ?_
  rintro e w2 (⟨t, A, c, ht, rfl, hK, hb⟩ | ⟨x, k, hx, hno, rfl, hb⟩)
  · have hl : s.size ≤ 64 := by
      unfold tree at ht
      split at ht
      · cases ht
      · split at ht
        · cases ht
        · rename_i h; have : s.data.toList.length = s.size := rfl; omega
    have hk : kind = 1 ∨ kind = 2 ∨ kind = 3 := by
      unfold tree at ht
      split at ht
      · cases ht
      · omega
    have HP : Hid (printR kind s.data.toList = printL kind.toNat s.data.toList) := Lib.hid (by unfold printR; rw [ht])
    have H2 := Lib.hid (below_then H0.out hb (Nat.le_refl _))
    have HB2 := Lib.hid ((hb.block _ (lt_of_block HB.out)).trans HB.out)
    clear ht hb HB H0
    go_upto_region 2 with (fail)
    obtain ⟨hA, hAB⟩ := TrAt.made hK
    have HA := Lib.hid hA; have H3 := Lib.hid (below_then H2.out hAB (Nat.le_refl _))
    have HB3 := Lib.hid ((hAB.block _ (lt_of_block HB2.out)).trans HB2.out)
    clear hA hAB hK H2 HB2
    generalize (w2.alloc (.cells #[.int .i64 t.op, .int .u64 (word t.set 0), .int .u64 (word t.set 1), .int .u64 (word t.set 2), .int .u64 (word t.set 3), .slice A t.kids.length c] TN)).alloc (.cells #[.int .i64 0, .int .i64 0] TSp) = w3 at *
    generalize w2.heap.size = B at *
    have r0 := HA.out.err.1
    have c0 : w3.cell? ⟨b0, 0, none⟩ = some (.int .i64 kind) := by rw [cell_of_row _ _ _ _ _ _ HB3.out]; rfl
    have c1 : w3.cell? ⟨b0, 1, none⟩ = some (.string s) := by rw [cell_of_row _ _ _ _ _ _ HB3.out]; rfl
    have hq : ∀ W, Calls Try.prog 20 #[.string s] W fun e w' => e = .returned (.string (bs (quote s.data.toList))) ∧ Below W.heap.size W w' := fun W => quote_any s W (by omega)
    have HQ := Lib.hid hq
    have hql : (bs (quote s.data.toList)).size ≤ 1000 := by
      rw [bs_sz]; have h1 := signs_len4 s.data.toList; have : s.data.toList.length = s.size := rfl
      simp [quote]; omega
    clear hq HA
    have hsz : ∀ n : Nat, n ≤ 10 → ¬ 9223372036854775807 < n + (bs (quote s.data.toList)).size := fun n hn => by omega
    have x0 := hsz 0 (by omega); have x1 := hsz 3 (by omega); have x2 := hsz 5 (by omega)
    rw [Nat.zero_add] at x0
    have HW : ∀ k : Nat, (bs (wordW k) ++ bs (quote s.data.toList)) = bs (printL k s.data.toList) := fun k => bs_app _ _
    have HWW := Lib.hid HW
    clear hsz HW hl
    rcases hk with rfl | rfl | rfl
    · go_upto_region 4 with (fail)
      have hix : ∀ w, (Instr.index 91 (.agg #[.string ⟨#[]⟩, .string ⟨#[103, 108, 111, 98, 32]⟩, .string ⟨#[114, 101, 32]⟩]) (.int .i64 (IntKind.i64.wrap 0))).run Try.prog w = .ok (.string ⟨#[]⟩) w := fun _ => by kernel_rfl
      go_region_held3 (fun w' => w'.cell? ⟨b0, 0, none⟩ = some (.int .i64 1) ∧ w'.cell? ⟨b0, 1, none⟩ = some (.string s))
        (first | exact ⟨c0, c1⟩ | exact ⟨cell_below c0 hb2, cell_below c1 hb2⟩)
        (first | (go_at_call 20; refine (HQ.out w3.drew).mono ?_; rintro e w4 ⟨rfl, hb⟩; have hb2 : Below w3.heap.size w3 w4 := ⟨hb.os, hb.tape, hb.output, hb.size, fun k hk => hb.block k hk⟩; have H4 := Lib.hid (below_then H3.out hb2 (Nat.le_refl _)); clear hb))
      all_goals (go_wp2_with fail; go_ret; exact ⟨by rw [HP.out]; exact congrArg (fun x => Ending.returned (.string x)) (HWW.out 1), H4.out⟩)
    · go_upto_region 4 with (fail)
      have hix : ∀ w, (Instr.index 91 (.agg #[.string ⟨#[]⟩, .string ⟨#[103, 108, 111, 98, 32]⟩, .string ⟨#[114, 101, 32]⟩]) (.int .i64 (IntKind.i64.wrap 1))).run Try.prog w = .ok (.string ⟨#[103, 108, 111, 98, 32]⟩) w := fun _ => by kernel_rfl
      go_region_held3 (fun w' => w'.cell? ⟨b0, 0, none⟩ = some (.int .i64 2) ∧ w'.cell? ⟨b0, 1, none⟩ = some (.string s))
        (first | exact ⟨c0, c1⟩ | exact ⟨cell_below c0 hb2, cell_below c1 hb2⟩)
        (first | (go_at_call 20; refine (HQ.out w3.drew).mono ?_; rintro e w4 ⟨rfl, hb⟩; have hb2 : Below w3.heap.size w3 w4 := ⟨hb.os, hb.tape, hb.output, hb.size, fun k hk => hb.block k hk⟩; have H4 := Lib.hid (below_then H3.out hb2 (Nat.le_refl _)); clear hb))
      all_goals (go_wp2_with fail; go_ret; exact ⟨by rw [HP.out]; exact congrArg (fun x => Ending.returned (.string x)) (HWW.out 2), H4.out⟩)
    · go_upto_region 4 with (fail)
      have hix : ∀ w, (Instr.index 91 (.agg #[.string ⟨#[]⟩, .string ⟨#[103, 108, 111, 98, 32]⟩, .string ⟨#[114, 101, 32]⟩]) (.int .i64 (IntKind.i64.wrap 2))).run Try.prog w = .ok (.string ⟨#[114, 101, 32]⟩) w := fun _ => by kernel_rfl
      go_region_held3 (fun w' => w'.cell? ⟨b0, 0, none⟩ = some (.int .i64 3) ∧ w'.cell? ⟨b0, 1, none⟩ = some (.string s))
        (first | exact ⟨c0, c1⟩ | exact ⟨cell_below c0 hb2, cell_below c1 hb2⟩)
        (first | (go_at_call 20; refine (HQ.out w3.drew).mono ?_; rintro e w4 ⟨rfl, hb⟩; have hb2 : Below w3.heap.size w3 w4 := ⟨hb.os, hb.tape, hb.output, hb.size, fun k hk => hb.block k hk⟩; have H4 := Lib.hid (below_then H3.out hb2 (Nat.le_refl _)); clear hb))
      all_goals (go_wp2_with fail; go_ret; exact ⟨by rw [HP.out]; exact congrArg (fun x => Ending.returned (.string x)) (HWW.out 3), H4.out⟩)
  · have HP : Hid (printR kind s.data.toList = []) := Lib.hid (by
      unfold printR
      split
      · rename_i t h; exact absurd h (hno t)
      · rfl)
    have H2 := Lib.hid (below_then H0.out hb (Nat.le_refl _))
    have HX := Lib.hid hx
    clear hb hx H0 hno
    go_upto_region 2 with (fail)
    have hs := spot_made w2 (.cells #[.int .i64 0, .int .u64 0, .int .u64 0, .int .u64 0, .int .u64 0, .slice none 0 0] TN) #[.int .i64 x, .int .i64 k]
    have hAB := two_below w2 (.cells #[.int .i64 0, .int .u64 0, .int .u64 0, .int .u64 0, .int .u64 0, .slice none 0 0] TN) (.cells #[.int .i64 x, .int .i64 k] TSp)
    have H3 := Lib.hid (below_then H2.out hAB (Nat.le_refl _))
    generalize (w2.alloc (.cells #[.int .i64 0, .int .u64 0, .int .u64 0, .int .u64 0, .int .u64 0, .slice none 0 0] TN)).alloc (.cells #[.int .i64 x, .int .i64 k] TSp) = w3 at *
    have r1 := spot_cell hs
    have x0 : ((x : Int) != 0) = true := by rw [bne_iff_ne]; have := HX.out; omega
    clear hs hAB H2
    go_wp2_with fail
    go_ret
    exact ⟨by rw [HP.out]; rfl, H3.out⟩
end Go.Proofs.Ytlfhjmdbkifciaa
