/- heavy: it answers, whatever the message. -/
import Derived.Test.YtbapifbahhjfgaaMsgSame2
namespace Go.Proofs.Ytbapifbahhjfgaa
open Go.RowKit

/-- it answers; and where the answer is 'no', no entry is great -/
def HeavyIs (m : Msg) (e : Ending) : Prop := e = .returned (.bool true) ∨ (e = .returned (.bool false) ∧ (∀ x ∈ m.ents, x.2.size ≤ 16384) ∧ m.ents.length ≤ 1024)

set_option maxRecDepth 100000 in
set_option maxHeartbeats 16000000 in
theorem heavy_any (m : Msg) (A : Option Addr) (c : Nat) (w : World) (ha : EArg w w.heap.size A m.ents) (hn : m.ents.length ≤ 9223372036854775807) :
    Calls Try.prog 12 #[m.val (.slice A m.ents.length c)] w fun e w' => HeavyIs m e ∧ Below w.heap.size w w' := by
  have hM : MB (w.alloc (.cells (m.cells (.slice A m.ents.length c)).toArray TM)) w.heap.size m (.slice A m.ents.length c) := heap_alloc_new w _
  have hB0 := below_new w (.cells (m.cells (.slice A m.ents.length c)).toArray TM)
  have c12 := hM.cell 12 _ rfl
  have c9 := hM.cell 9 _ rfl
  have HM := Lib.hid hM; have HB0 := Lib.hid hB0; have HA := Lib.hid ha
  clear hM hB0 ha
  simp only [Msg.val, Msg.cells] at c12 c9 HM HB0 ⊢
  go_enter Try.func12, Try.ntmps12
  go_wp2_with fail
  generalize w.alloc (.cells #[.int .u8 m.kind, .int .i64 (m.n 0), .int .i64 (m.n 1), .int .i64 (m.n 2), .int .i64 (m.n 3), .int .i64 (m.n 4), .int .i64 (m.n 5), .int .i64 (m.n 6), .bool m.good, .slice A m.ents.length c, .int .i64 (m.n 7), .int .i64 (m.n 8), .string m.data, .int .i64 (m.n 9), .int .i64 (m.n 10), .int .i64 (m.n 11), .int .i64 (m.n 12), .int .i64 (m.n 13), .int .i64 (m.n 14), .int .u8 m.op, .int .i64 m.err, .int .i64 m.leader] TM) = W0 at *
  generalize Value.agg #[.int .u8 m.kind, .int .i64 (m.n 0), .int .i64 (m.n 1), .int .i64 (m.n 2), .int .i64 (m.n 3), .int .i64 (m.n 4), .int .i64 (m.n 5), .int .i64 (m.n 6), .bool m.good, .slice A m.ents.length c, .int .i64 (m.n 7), .int .i64 (m.n 8), .string m.data, .int .i64 (m.n 9), .int .i64 (m.n 10), .int .i64 (m.n 11), .int .i64 (m.n 12), .int .i64 (m.n 13), .int .i64 (m.n 14), .int .u8 m.op, .int .i64 m.err, .int .i64 m.leader] = V
  have HA0 := Lib.hid (HA.out.on HB0.out)
  clear HA
  obtain ⟨g, hg⟩ : ∃ g, w.heap.size = g := ⟨_, rfl⟩
  have HG := Lib.hid hg
  rw [hg] at HM c12 c9 ⊢
  clear hg
  have HBr : Hid (Below W0.heap.size W0 W0) := Lib.hid (Below.refl _ _)
  obtain ⟨WW, hWW⟩ : ∃ WW, W0 = WW := ⟨_, rfl⟩
  have HMs : Hid (MB W0 g m (.slice A m.ents.length c)) := HM
  go_loopw [3, 12] (fun a i wr => ∃ (k : Nat) (t : Int), k ≤ m.ents.length ∧ i = .int .i64 k ∧ a = .int .i64 t ∧ Hid (∀ j (hj : j < k) (hl : j < m.ents.length), m.ents[j].2.size ≤ 16384) ∧ Hid (Below WW.heap.size WW wr) ∧ Hid (MB wr g m (.slice A m.ents.length c))) (fun _ i _ => m.ents.length - (intOf i).toNat)
  case atStart => exact ⟨0, m.data.size, by omega, rfl, rfl, Lib.hid (fun j h => absurd h (Nat.not_lt_zero _)), by rw [← hWW]; exact HBr, HM⟩
  case round =>
    subst hWW
    obtain ⟨k, t, hkl, rfl, rfl, HZ, HBq, HMq⟩ := hrel
    clear c12 c9 HM HMs HBr
    by_cases hlt : k < m.ents.length
    · obtain ⟨ad, rfl, hadb, h1, h2⟩ := (HA0.out.below HBq.out (Nat.le_refl _)) k hlt
      have hlt2 : (k : Int) < m.ents.length := by omega
      have hst : m.ents[k].2.size ≤ 16384 → ∀ j (hj : j < k + 1) (hl : j < m.ents.length), m.ents[j].2.size ≤ 16384 := fun h j hj hl => by
        by_cases e : j = k
        · subst e; exact h
        · exact HZ.out j (by omega) hl
      have HST := Lib.hid hst
      clear hst HZ
      generalize m.ents[k] = en at *
      obtain ⟨et, ed⟩ := en
      simp only [] at h1 h2
      have hw := HBq.out.size
      go_wp2_with fail
      all_goals first
        | (go_ret; exact ⟨.inl rfl, below_then (below_then HB0.out HBq.out (Nat.le_refl _)) (below_new wr _) (Nat.le_refl _)⟩)
        | exact ⟨⟨k + 1, _, by omega, by go_num, rfl, Lib.hid (HST.out (by show ed.size ≤ 16384; omega)), Lib.hid (below_then HBq.out (below_new wr _) (Nat.le_refl _)), Lib.hid (HMq.out.below (below_new wr _))⟩, by simp [intOf]; omega⟩
    · have hge : ¬ ((k : Int) < m.ents.length) := by omega
      have c12 := HMq.out.cell 12 _ rfl
      have c9 := HMq.out.cell 9 _ rfl
      have HALL : Hid (∀ x ∈ m.ents, x.2.size ≤ 16384) := Lib.hid (fun x hx => by
        obtain ⟨j, hj, rfl⟩ := List.getElem_of_mem hx
        exact HZ.out j (by omega) hj)
      clear HZ
      by_cases hd : 16384 < m.data.size
      · have hd2 : decide (16384 < (m.data.size : Int)) = true := by simp; omega
        go_wp2_with fail
        go_ret
        exact ⟨.inl rfl, below_then HB0.out HBq.out (Nat.le_refl _)⟩
      · have hd2 : decide (16384 < (m.data.size : Int)) = false := by simp; omega
        by_cases hd3 : 1024 < m.ents.length
        · have hd4 : decide (1024 < (m.ents.length : Int)) = true := by simp; omega
          go_wp2_with fail
          go_ret
          exact ⟨.inl rfl, below_then HB0.out HBq.out (Nat.le_refl _)⟩
        · have hd4 : decide (1024 < (m.ents.length : Int)) = false := by simp; omega
          go_wp2_with fail
          go_ret
          exact ⟨.inr ⟨rfl, HALL.out, by omega⟩, below_then HB0.out HBq.out (Nat.le_refl _)⟩

end Go.Proofs.Ytbapifbahhjfgaa
