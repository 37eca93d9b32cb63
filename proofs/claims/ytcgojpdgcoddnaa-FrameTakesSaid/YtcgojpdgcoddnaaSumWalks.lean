/- Package sum: table, More, Of, Join and the law's own check, each at every input. -/
import Derived.Test.YtcgojpdgcoddnaaSumRef
namespace Go.Proofs.Ytcgojpdgcoddnaa
open Go.RowKit CrcMath
attribute [local go_sem 10000] unary_xor_u32

/-- the cells of the table behind k rounds -/
def tabCell (k i : Nat) : Value := if i < k then .int .u32 (stn 4 i : Nat) else .int .u32 0
def tabCells (k : Nat) : Array Value := ((List.range 16).map (tabCell k)).toArray
def tabV : Array Value := tabCells 16

theorem tabCells_zero : tabCells 0 = #[.int .u32 0, .int .u32 0, .int .u32 0, .int .u32 0, .int .u32 0, .int .u32 0, .int .u32 0, .int .u32 0, .int .u32 0, .int .u32 0, .int .u32 0, .int .u32 0, .int .u32 0, .int .u32 0, .int .u32 0, .int .u32 0] := rfl

theorem tabCells_succ (k : Nat) (hk : k < 16) : (tabCells k).setIfInBounds k (.int .u32 (stn 4 k : Nat)) = tabCells (k + 1) := by
  apply Array.ext_getElem?
  intro i
  rw [Array.getElem?_setIfInBounds]
  by_cases h : k = i
  · subst h
    simp [tabCells, tabCell, hk]
  · simp only [h, if_false]
    simp only [tabCells, List.getElem?_toArray, List.getElem?_map]
    by_cases hi : i < 16
    · simp only [List.getElem?_range hi, Option.map_some, tabCell]
      have h2 : (i < k + 1) ↔ (i < k) := by omega
      simp only [h2]
    · simp [hi]

theorem tabCells_at (k : Nat) (hk : k < 16) : (tabCells k)[k]? = some (.int .u32 0) := by simp [tabCells, tabCell, hk]
theorem tabCells_one : (tabCells 16).all (·.oneCell') = true := by kernel_rfl
theorem tabCells_size (k : Nat) : (tabCells k).size = 16 := by simp [tabCells]

set_option maxRecDepth 100000 in
set_option maxHeartbeats 1000000 in
theorem table_any (w : World) :
    Calls Try.prog 28 #[] w fun e w' => e = .returned (.agg tabV) ∧ Below w.heap.size w w' := by
  go_enter Try.func28, Try.ntmps28
  go_wp2
  rw [← tabCells_zero]
  go_loopw [2, 3, 4] (fun _ _ i wr => ∃ k : Nat, k ≤ 16 ∧ i = .int .i64 k ∧ wr = (w.alloc (.cells (tabCells 0) 62)).alloc (.cells (tabCells k) 62)) (fun _ _ i _ => 16 - (intOf i).toNat)
  case atStart => exact ⟨0, by omega, rfl, rfl⟩
  case round =>
    obtain ⟨k, hk, rfl, rfl⟩ := hrel
    by_cases hlt : k < 16
    · have hk2 : k < 4294967296 := by omega
      go_wp2
      go_loop [3, 9] (fun x j => ∃ q xn : Nat, q ≤ 4 ∧ j = .int .i64 q ∧ x = .int .u32 xn ∧ xn < 4294967296 ∧ Hid (stn (4 - q) xn = stn 4 k)) (fun _ j => 4 - (intOf j).toNat)
      case atStart => exact ⟨0, k, by omega, rfl, rfl, by omega, rfl⟩
      case round =>
        obtain ⟨q, xn, hq, rfl, rfl, hx, H⟩ := hrel
        by_cases hq4 : q < 4
        · go_wp2
          go_round
          case rel => exact ⟨q + 1, st xn, by omega, by go_num, by rw [step_bits xn hx], st_lt' hx, by
            have := H.out
            rw [show 4 - q = (4 - (q + 1)) + 1 from by omega] at this
            exact this⟩
          case measure => simp [intOf]; omega
        · have hcell := tabCells_at k hlt
          have hz := H.out
          rw [show 4 - q = 0 from by omega] at hz
          have hz2 : xn = stn 4 k := hz
          have HZ := Lib.hid hz2; clear hz hz2 H
          go_wp2
          go_roundw
          case rel => exact ⟨k + 1, by omega, by go_num, by rw [HZ.out, tabCells_succ k hlt]⟩
          case measure => simp [intOf]; omega
    · have he : k = 16 := by omega
      subst he
      clear hlt hk
      have hg1 : ((w.alloc (.cells (tabCells 0) 62)).alloc (.cells (tabCells 16) 62)).heap[w.heap.size + 1]? = some (.cells (tabCells 16) 62 (0, 0)) := heap_alloc2_new w _ _
      have hg0 : ((w.alloc (.cells (tabCells 0) 62)).alloc (.cells (tabCells 16) 62)).heap[w.heap.size]? = some (.cells (tabCells 0) 62 (0, 0)) := heap_alloc2_old w _ _
      have HB : Below w.heap.size w ((w.alloc (.cells (tabCells 0) 62)).alloc (.cells (tabCells 16) 62)) := ((Below.refl _ _).alloc (Nat.le_refl _) _).alloc (by simp) _
      have H1 := Lib.hid hg1; have H0 := Lib.hid hg0; have HBB := Lib.hid HB; clear hg1 hg0 HB
      go_wp2_with (first
        | (refine wpList_load_row rfl 62 (.tmp 1) rfl (w.heap.size + 1) rfl 62 (tabCells 16) (0, 0) _ H1.out Try.underlying62 rfl (by kernel_rfl) ?_)
        | (refine wpList_store_row rfl 62 (.tmp 0) (.tmp 23) rfl w.heap.size (tabCells 16) rfl rfl 62 (tabCells 0) H0.out (by kernel_rfl) rfl tabCells_one ?_))
      refine bodyPost_ret (results_cell_row rfl _ _ w.heap.size 62 (tabCells 16) (0, 0) _ rfl (setRow_heap _ _ _ _ _ _ H0.out) Try.underlying62 rfl (by kernel_rfl)) rfl ⟨rfl, ?_⟩
      exact HBB.out.trans ⟨rfl, rfl, rfl, by simp, fun k hk => setRow_other _ _ _ _ (by omega)⟩

theorem tabV_at (i : Nat) (hi : i < 16) : tabV[i]? = some (.int .u32 (stn 4 i : Nat)) := by simp [tabV, tabCells, tabCell, hi]

theorem and15 (x : Nat) (hx : x < 4294967296) : bits BinOp.and IntKind.u32 (x : Int) 15 = ((x % 16 : Nat) : Int) := by
  have := u32_and_nat x 15 hx (by omega)
  rw [nat_mask4] at this
  exact this

theorem nib (x : Nat) (hx : x < 4294967296) : bits BinOp.xor IntKind.u32 ((stn 4 (x % 16) : Nat) : Int) ((x : Int) / 16) = ((stn 4 x : Nat) : Int) := by
  have h1 : ((x : Int) / 16) = ((x / 16 : Nat) : Int) := by omega
  rw [h1, u32_xor_nat _ _ (stn_lt 4 (by omega)) (by omega), ← stn_nibble]

set_option maxRecDepth 100000 in
set_option maxHeartbeats 1000000 in
theorem more_nat (m : Nat) (s : ByteArray) (w : World) (h : m < 4294967296) (hs : s.size ≤ 9223372036854775807) :
    Calls Try.prog 25 #[.int .u32 m, .string s] w fun e w' => e = .returned (.int .u32 (more m s.data.toList : Nat)) ∧ Below w.heap.size w w' := by
  go_enter Try.func25, Try.ntmps25
  go_wp2_with fail
  refine (table_any _).mono ?_
  rintro e w1 ⟨rfl, hb⟩
  have HB := Lib.hid hb; clear hb
  go_wp2_with (refine wpList_store_row rfl 62 (.tmp 5) (.tmp 8) rfl w1.heap.size tabV rfl rfl 62 (tabCells 0) (heap_alloc_new _ _) (by kernel_rfl) rfl tabCells_one ?_)
  rw [← tabCells_zero]
  generalize hW : (w1.alloc (.cells (tabCells 0) 62)).setRow w1.heap.size tabV = W
  have hcell : ∀ i, i < 16 → W.cell? ⟨w1.heap.size, i, none⟩ = some (.int .u32 (stn 4 i : Nat)) := by
    intro i hi
    rw [← hW, cell_of_row _ _ _ tabV _ (0, 0) (setRow_heap _ _ _ _ _ _ (heap_alloc_new _ _)), tabV_at i hi]
  have hbW : Below w.heap.size w W := by
    rw [← hW]
    exact (HB.out.alloc HB.out.size _).trans ⟨rfl, rfl, rfl, by simp, fun k hk => setRow_other _ _ _ _ (by have := HB.out.size; omega)⟩
  have HC := Lib.hid hcell; have HBW := Lib.hid hbW; clear hcell hbW HB hW
  generalize w1.heap.size = B at HC ⊢
  go_loop [6, 13] (fun x i => ∃ k : Nat, k ≤ s.size ∧ i = .int .i64 k ∧ x = .int .u32 (reg (m ^^^ ones) (s.data.toList.take k) : Nat)) (fun _ i => s.size - (intOf i).toNat)
  case atStart => exact ⟨0, Nat.zero_le _, rfl, by rw [notU_nat m (by omega)]; simp [reg]⟩
  case round =>
    obtain ⟨k, hk, rfl, rfl⟩ := hrel
    by_cases hlt : k < s.size
    · have hreg : reg (m ^^^ ones) (s.data.toList.take k) < 4294967296 := reg_lt _ (xor_lt32 (by omega) (by decide))
      have hsn := reg_snoc (m ^^^ ones) (s.data.toList.take k) s[k]
      rw [← take_snoc s k hlt] at hsn
      have HS := Lib.hid hsn; clear hsn
      have hc : s[k].toNat < 4294967296 := byte_lt _
      generalize reg (m ^^^ ones) (s.data.toList.take k) = X at hreg HS ⊢
      have e1 := u32_xor_nat X s[k].toNat hreg hc
      have hY := xor_lt32 hreg hc
      generalize X ^^^ s[k].toNat = Y at e1 hY HS
      have e2 := and15 Y hY
      have e3 := HC.out (Y % 16) (by omega)
      have e4 := nib Y hY
      have hZ : stn 4 Y < 4294967296 := stn_lt 4 hY
      have hYZ : stn 8 Y = stn 4 (stn 4 Y) := stn_add 4 4 Y
      rw [hYZ] at HS
      clear hYZ
      generalize stn 4 Y = Z at e4 hZ HS
      have e5 := and15 Z hZ
      have e6 := HC.out (Z % 16) (by omega)
      have e7 := nib Z hZ
      generalize stn 4 Z = U at e7 HS
      have hm1 : Y % 16 < 16 := by omega
      have hm2 : Z % 16 < 16 := by omega
      go_wp2
      go_round
      case rel => exact ⟨k + 1, by omega, by go_num, by rw [HS.out]⟩
      case measure => simp [intOf]; omega
    · have hke : k = s.size := by omega
      have hrg : reg (m ^^^ ones) (s.data.toList.take k) = reg (m ^^^ ones) s.data.toList := by rw [List.take_of_length_le (by simp; omega)]
      rw [hrg]
      have hreg : reg (m ^^^ ones) s.data.toList < 4294967296 := reg_lt _ (xor_lt32 (by omega) (by decide))
      clear hrg hke
      go_wp2
      go_ret
      exact ⟨ret_int (notU_nat _ hreg), HBW.out⟩

end Go.Proofs.Ytcgojpdgcoddnaa
