/- Quoted and Unquote: the walks. -/
import Derived.Test.YtlfhjmdbkifciaaPatQuoted
import Derived.Deep.RegionHeld3
namespace Go.Proofs.Ytlfhjmdbkifciaa
open Go.RowKit PM

theorem scanL_len {most : Int} : ∀ (f : Nat) (l : List UInt8) (a : Nat) (out : List UInt8) (pl : List Nat) {o : List UInt8} {q : List Nat}, scanL most f l a out pl = .ok o q → o.length ≤ out.length + l.length
  | 0, l, a, out, pl, o, q, h => by simp [scanL] at h
  | f + 1, l, a, out, pl, o, q, h => by
    simp only [scanL] at h
    split at h
    · cases h
    · split at h
      · cases h; omega
      · split at h
        · rename_i c n hs
          have hs' := step_pos hs
          have := scanL_len f _ _ _ _ h
          rw [List.length_append, List.length_singleton, List.length_drop] at this
          omega
        · cases h
theorem scan_len {most : Int} {s : List UInt8} {a : Nat} {o : List UInt8} {q : List Nat} (h : scan most s a = .ok o q) : o.length ≤ s.length := by
  unfold scan at h
  split at h
  · have := scanL_len _ _ _ _ _ h
    rw [List.length_nil, List.length_drop] at this; omega
  · cases h

theorem last_get (pl : List Nat) (n : Nat) (h : pl.length = n + 1) : pl[n]? = some (pl.getLastD 0) := by
  have hne : pl ≠ [] := by rintro rfl; simp at h
  rw [List.getLastD_eq_getLast?, List.getLast?_eq_getElem?, h, Nat.add_sub_cancel]
  rw [List.getElem?_eq_getElem (by omega)]
  rfl

theorem QB.setSpot {w : World} {b : Nat} {x : ByteArray} {n : Int} (h : QB w b x n) : QB ((w.setCell ⟨b + 2, 0, none⟩ (.int .i64 0)).setCell ⟨b + 2, 1, none⟩ (.int .i64 0)) b x n := by
  have h1 := heap_setCell_same w (b + 2) 0 _ _ (.int .i64 0) h.spot
  have h2 := heap_setCell_same (w.setCell ⟨b + 2, 0, none⟩ (.int .i64 0)) (b + 2) 1 _ _ (.int .i64 0) h1
  exact ⟨(Below.heap_setCell _ _ _ _ (by simp)).trans ((Below.heap_setCell _ _ _ _ (by simp)).trans h.out), (Below.heap_setCell _ _ _ _ (by simp)).trans ((Below.heap_setCell _ _ _ _ (by simp)).trans h.num), by rw [h2]; rfl⟩

/-- the boxes of Quoted, just made -/
def quotedB (w : World) : World := ((w.alloc (.cells #[.string ⟨#[]⟩] 9)).alloc (.cells #[.int .i64 0] TI)).alloc (.cells (spotC 0 0) TSp)
theorem quotedB_facts (w : World) : QB (quotedB w) w.heap.size ⟨#[]⟩ 0 ∧ Below w.heap.size w (quotedB w) ∧ (quotedB w).heap.size = w.heap.size + 3 := by
  have b1 := below_new w (.cells #[.string ⟨#[]⟩] 9)
  have b2 := below_new (w.alloc (.cells #[.string ⟨#[]⟩] 9)) (.cells #[.int .i64 0] TI)
  have b3 := below_new ((w.alloc (.cells #[.string ⟨#[]⟩] 9)).alloc (.cells #[.int .i64 0] TI)) (.cells (spotC 0 0) TSp)
  have h1 := heap_alloc_new w (.cells #[.string ⟨#[]⟩] 9)
  have h2 := heap_alloc_new (w.alloc (.cells #[.string ⟨#[]⟩] 9)) (.cells #[.int .i64 0] TI)
  have h3 := heap_alloc_new ((w.alloc (.cells #[.string ⟨#[]⟩] 9)).alloc (.cells #[.int .i64 0] TI)) (.cells (spotC 0 0) TSp)
  simp only [World.size_alloc] at b2 b3 h2 h3
  exact ⟨⟨(b3.block _ (by omega)).trans ((b2.block _ (by omega)).trans h1), (b3.block _ (by omega)).trans h2, h3⟩, (b1.trans (b2.mono (by omega))).trans (b3.mono (by omega)), by simp [quotedB]⟩

set_option maxRecDepth 100000 in
set_option maxHeartbeats 4000000 in
theorem quoted_any (s : ByteArray) (most : Int) (w : World) (hs : s.size ≤ 100000000) :
    Calls Try.prog 24 #[.string s, .int .i64 most] w fun e w' => e = .returned (quotedV (scan (max most (-1)) s.data.toList 0)) ∧ Below w.heap.size w w' := by
  have hmf : ∀ (fn : Fn) (first cap : Array Value) (w : World), (Instr.makeFunc fn first cap).run Try.prog w = .ok (.func fn first cap) w := fun _ _ _ _ => rfl
  obtain ⟨hq, hb, hz⟩ := quotedB_facts w
  have HQ := Lib.hid hq; have HB := Lib.hid hb; have HZ := Lib.hid hz
  clear hq hb hz
  go_enter_defers Try.func24, Try.ntmps24
  go_wp2_with fail
  change Calls _ _ _ (quotedB w) _
  generalize quotedB w = W0 at *
  refine (scan_any s 0 (max most (-1)) W0 (by omega) (Nat.zero_le _) (by omega)).mono ?_
  rintro e w3 hm
  obtain ⟨r, hr⟩ : ∃ r, scan (max most (-1)) s.data.toList 0 = r := ⟨_, rfl⟩
  rw [hr] at hm
  have HR := Lib.hid hr
  clear hr
  rcases r with ⟨out, pl⟩ | k | k
  · obtain ⟨v, rfl, hown, hb⟩ := hm
    obtain ⟨hne, hmem, hlen⟩ := scan_places HR.out
    have hol : pl.length ≤ 100000001 := by
      have h1 := scan_len HR.out
      have h2 : s.data.toList.length = s.size := rfl
      omega
    obtain ⟨n, hn⟩ : ∃ n, pl.length = n + 1 := ⟨pl.length - 1, by have := List.length_pos_iff.2 hne; omega⟩
    obtain ⟨g, cap, rfl, hgB, hgl⟩ := hown.form (by omega)
    have hlast : (intC pl)[n]? = some (.int .i64 (pl.getLastD 0 : Nat)) := by
      unfold intC; rw [List.getElem?_map, last_get pl n hn]; rfl
    have hcell := hown.cells (g := g) rfl n _ hlast
    rw [Addr.add_lit, Nat.zero_add] at hcell
    rw [hn]
    have hgb : w.heap.size + 3 ≤ g := by rw [← HZ.out]; exact hgB
    have hq3 := HQ.out.on hb
    have HQ4 := Lib.hid (hq3.setOut (bs out))
    have hB4 := (below_then HB.out hb (Nat.le_refl _)).trans (below_setAt w.heap.size w3 w.heap.size 0 (.string (bs out)) (Nat.le_refl _))
    have HB4 := Lib.hid hB4
    obtain ⟨d0, d1, f0, f1⟩ := hq3.cells
    have hg4 : (w3.setCell ⟨w.heap.size, 0, none⟩ (.string (bs out))).cell? ⟨g, n, none⟩ = some (.int .i64 (pl.getLastD 0 : Nat)) := by
      rw [World.cell?_setCell_other _ _ _ _ (by first | (simp; omega) | simp)]; exact hcell
    have HC := Lib.hid hg4
    clear hown hb hlast hcell hq3 hB4 hg4 HQ HB
    go_upto_region 3 with (fail)
    generalize w3.setCell ⟨w.heap.size, 0, none⟩ (.string (bs out)) = W4 at *
    clear d0 d1 f0 f1
    obtain ⟨d0, d1, f0, f1⟩ := HQ4.out.cells
    have hc := HC.out
    have s0 : W4.cell? ⟨w.heap.size + 1 + 1, 0, none⟩ = some (.int .i64 0) := by rw [cell_of_row _ _ 0 _ _ _ HQ4.out.spot]; rfl
    have s1 : W4.cell? ⟨w.heap.size + 1 + 1, 1, none⟩ = some (.int .i64 0) := by rw [cell_of_row _ _ 1 _ _ _ HQ4.out.spot]; rfl
    have s2 : W4.frozen? ⟨w.heap.size + 1 + 1, 0, none⟩ = false := frozen_of_row _ _ 0 _ _ HQ4.out.spot
    have s3 : W4.frozen? ⟨w.heap.size + 1 + 1, 1, none⟩ = false := frozen_of_row _ _ 1 _ _ HQ4.out.spot
    have hn0 : (0 : Int) ≤ n := by omega
    have hn1 : (n : Int) ≤ 100000001 := by omega
    have hl0 : ((pl.getLastD 0 : Nat) : Int) ≤ 100000001 := by
      have h1 := hmem _ (List.mem_of_getElem? (last_get pl n hn))
      have h2 : s.data.toList.length = s.size := rfl
      omega
    have i1 : ¬ g = w.heap.size := by omega
    have i2 : ¬ w.heap.size = g := by omega
    have i3 : ¬ g = w.heap.size + 1 := by omega
    have i4 : ¬ w.heap.size + 1 = g := by omega
    have i5 : ¬ g = w.heap.size + 1 + 1 := by omega
    have i6 : ¬ w.heap.size + 1 + 1 = g := by omega
    obtain ⟨m, hm⟩ : ∃ m : Nat, pl.getLastD 0 = m := ⟨_, rfl⟩
    have HM := Lib.hid hm
    rw [hm] at hc hl0
    clear hm
    have hQ5 := HQ4.out.setOut (bs out)
    have hQ6 := hQ5.setNum ((m : Int) + 1)
    have k1 := hQ5.cells.1
    have k2 := hQ6.cells.1
    have k3 := hQ5.cells.2.1
    have k4 := hQ5.cells.2.2.2
    have k5 : ((((W4.setCell ⟨w.heap.size, 0, none⟩ (.string (bs out))).setCell ⟨w.heap.size + 1, 0, none⟩ (.int .i64 ((m : Int) + 1))).setCell ⟨w.heap.size + 1 + 1, 0, none⟩ (.int .i64 0)).setCell ⟨w.heap.size + 1 + 1, 1, none⟩ (.int .i64 0)).cell? ⟨w.heap.size, 0, none⟩ = some (.string (bs out)) := by
      rw [World.cell?_setCell_other _ _ _ _ (by simp), World.cell?_setCell_other _ _ _ _ (by simp)]; exact k2
    have hw1 : IntKind.i64.wrap (n : Int) = n := IntWalk.i64_in _ (by omega)
    have hn2 : (n : Int) < (n : Int) + 1 := by omega
    have hw3 : IntKind.i64.wrap ((n : Int) + 1 - 1) = n := (by rw [show (n : Int) + 1 - 1 = n by omega]; exact hw1)
    have hw2 : IntKind.i64.wrap ((m : Int) + 1) = m + 1 := IntWalk.i64_in _ (by omega)
    have HQ6 := Lib.hid hQ6
    clear hQ5 hQ6
    go_region_held3 (fun w' => w'.cell? ⟨w.heap.size, 0, none⟩ = some (.string (bs out)) ∧ w'.cell? ⟨g, n, none⟩ = some (.int .i64 (m : Nat))) (go_keep) (fail)
    have HQ7 := Lib.hid HQ6.out.setSpot
    have hb7 : Below w.heap.size w ((((W4.setCell ⟨w.heap.size, 0, none⟩ (.string (bs out))).setCell ⟨w.heap.size + 1, 0, none⟩ (.int .i64 ((m : Int) + 1))).setCell ⟨w.heap.size + 2, 0, none⟩ (.int .i64 0)).setCell ⟨w.heap.size + 2, 1, none⟩ (.int .i64 0)) :=
      (((HB4.out.trans (below_setAt _ _ _ _ _ (Nat.le_refl _))).trans (below_setAt _ _ _ _ _ (by omega))).trans (below_setAt _ _ _ _ _ (by omega))).trans (below_setAt _ _ _ _ _ (by omega))
    have HB7 := Lib.hid hb7
    clear hb7 k1 k2 k3 k4 k5 d0 d1 f0 f1 s0 s1 s2 s3 hc
    go_wp2_with fail
    exact quoted_door (x := bs out) (n := (m : Int) + 1) (Y := spotC 0 0) w.heap.size rfl rfl rfl HQ7.out.out HQ7.out.num HQ7.out.spot rfl ⟨by rw [HR.out]; simp only [quotedV]; rw [HM.out]; rfl, HB7.out.drew⟩
  · obtain ⟨rfl, hb⟩ := hm
    have HQ3 := Lib.hid (HQ.out.on hb); have HB3 := Lib.hid (below_then HB.out hb (Nat.le_refl _))
    clear hb HQ HB
    go_wp2_with fail
    exact quoted_door_wrong w.heap.size k rfl rfl rfl HQ3.out ⟨by rw [HR.out]; rfl, HB3.out.trans (below_quotedW _ _ _ _ _ (Nat.le_refl _))⟩
  · obtain ⟨rfl, hb⟩ := hm
    have HQ3 := Lib.hid (HQ.out.on hb); have HB3 := Lib.hid (below_then HB.out hb (Nat.le_refl _))
    clear hb HQ HB
    go_wp2_with fail
    exact quoted_door_long w.heap.size k rfl rfl rfl HQ3.out ⟨by rw [HR.out]; rfl, HB3.out.trans (below_quotedW _ _ _ _ _ (Nat.le_refl _))⟩

end Go.Proofs.Ytlfhjmdbkifciaa
