/- PatternEscapes: a sign ahead of each byte makes any text mean itself, in a glob and in a regular pattern. -/
import Derived.Test.YtlfhjmdbkifciaaPatSame
import Derived.Test.YtlfhjmdbkifciaaPatQuotes
namespace Go.Proofs.Ytlfhjmdbkifciaa
open Go.RowKit PM

/-- a tree and its spot lie there -/
structure TrAt (W : World) (B : Nat) (t : T) (K : Value) : Prop where
  node : W.heap[B]? = some (.cells (nodeC t K).toArray TN (0, 0))
  spot : W.heap[B + 1]? = some (.cells #[.int .i64 0, .int .i64 0] TSp (0, 0))
  tree : IsT W (fun _ => True) K t
theorem TrAt.on {W W' : World} {B : Nat} {t : T} {K : Value} (h : TrAt W B t K) (hb : Below W.heap.size W W') : TrAt W' B t K :=
  ⟨(hb.block _ (lt_of_block h.node)).trans h.node, (hb.block _ (lt_of_block h.spot)).trans h.spot, h.tree.on hb⟩
theorem TrAt.made {w : World} {p : Nat → Prop} {t : T} {K : Value} (h : IsT w p K t) :
    TrAt ((w.alloc (.cells #[.int .i64 t.op, .int .u64 (word t.set 0), .int .u64 (word t.set 1), .int .u64 (word t.set 2), .int .u64 (word t.set 3), K] TN)).alloc (.cells #[.int .i64 0, .int .i64 0] TSp)) w.heap.size t K ∧
    Below w.heap.size w ((w.alloc (.cells #[.int .i64 t.op, .int .u64 (word t.set 0), .int .u64 (word t.set 1), .int .u64 (word t.set 2), .int .u64 (word t.set 3), K] TN)).alloc (.cells #[.int .i64 0, .int .i64 0] TSp)) := by
  have b1 := below_new w (.cells #[.int .i64 t.op, .int .u64 (word t.set 0), .int .u64 (word t.set 1), .int .u64 (word t.set 2), .int .u64 (word t.set 3), K] TN)
  have b2 := below_new (w.alloc (.cells #[.int .i64 t.op, .int .u64 (word t.set 0), .int .u64 (word t.set 1), .int .u64 (word t.set 2), .int .u64 (word t.set 3), K] TN)) (.cells #[.int .i64 0, .int .i64 0] TSp)
  have h1 := heap_alloc_new w (.cells #[.int .i64 t.op, .int .u64 (word t.set 0), .int .u64 (word t.set 1), .int .u64 (word t.set 2), .int .u64 (word t.set 3), K] TN)
  have h2 := heap_alloc_new (w.alloc (.cells #[.int .i64 t.op, .int .u64 (word t.set 0), .int .u64 (word t.set 1), .int .u64 (word t.set 2), .int .u64 (word t.set 3), K] TN)) (.cells #[.int .i64 0, .int .i64 0] TSp)
  simp only [World.size_alloc] at b2 h2
  have hb := b1.trans (b2.mono (by omega))
  exact ⟨⟨(b2.block _ (by omega)).trans h1, h2, (h.on hb).imp fun _ _ _ => trivial⟩, hb⟩
theorem two_below (w : World) (x y : Obj) : Below w.heap.size w ((w.alloc x).alloc y) := below_then (below_new w x) (below_new _ _) (Nat.le_refl _)
/-- what is read of it -/
theorem TrAt.cells {W : World} {B : Nat} {t : T} {K : Value} (h : TrAt W B t K) : W.cell? ⟨B, 0, none⟩ = some (.int .i64 t.op) ∧ W.cell? ⟨B, 1, none⟩ = some (.int .u64 (word t.set 0)) ∧ W.cell? ⟨B, 2, none⟩ = some (.int .u64 (word t.set 1)) ∧
    W.cell? ⟨B, 3, none⟩ = some (.int .u64 (word t.set 2)) ∧ W.cell? ⟨B, 4, none⟩ = some (.int .u64 (word t.set 3)) ∧ W.cell? ⟨B, 5, none⟩ = some K := by
  refine ⟨?_, ?_, ?_, ?_, ?_, ?_⟩ <;> (rw [cell_of_row _ _ _ _ _ _ h.node]; rfl)
theorem TrAt.err {W : World} {B : Nat} {t : T} {K : Value} (h : TrAt W B t K) : W.cell? ⟨B + 1, 0, none⟩ = some (.int .i64 0) ∧ W.cell? ⟨B + 1, 1, none⟩ = some (.int .i64 0) := by
  refine ⟨?_, ?_⟩ <;> (rw [cell_of_row _ _ _ _ _ _ h.spot]; rfl)
theorem TrAt.same {W : World} {B C : Nat} {t : T} {K J : Value} (h : TrAt W B t K) (g : TrAt W C t J) (ok : T.OK 100 t) :
    Calls Try.prog 16 #[.agg #[.int .i64 t.op, .int .u64 (word t.set 0), .int .u64 (word t.set 1), .int .u64 (word t.set 2), .int .u64 (word t.set 3), K], .agg #[.int .i64 t.op, .int .u64 (word t.set 0), .int .u64 (word t.set 1), .int .u64 (word t.set 2), .int .u64 (word t.set 3), J]] W
      fun e w' => e = .returned (.bool true) ∧ Below W.heap.size W w' :=
  same_any 100 (by omega) t ok _ _ K J W h.tree g.tree

namespace PM
def bareB (l : List UInt8) : Bool := l.all fun c => c != 42 && c != 63 && c != 92
theorem bareB_iff {l : List UInt8} (h : bareB l = true) : ∀ c ∈ l, c ≠ 42 ∧ c ≠ 63 ∧ c ≠ 92 := fun c hc => by
  have := List.all_eq_true.1 h c hc
  simp only [Bool.and_eq_true, bne_iff_ne] at this
  exact ⟨this.1.1, this.1.2, this.2⟩
theorem bareB_snoc (s : ByteArray) (i : Nat) (h : i < s.size) : bareB (s.data.toList.take (i + 1)) = (bareB (s.data.toList.take i) && (s[i] != 42 && s[i] != 63 && s[i] != 92)) := by
  rw [List.take_succ_eq_append_getElem (show i < s.data.toList.length from h)]
  simp [bareB, List.all_append]; rfl
theorem esc_take (s : ByteArray) (i : Nat) (h : i < s.size) : esc (s.data.toList.take (i + 1)) = esc (s.data.toList.take i) ++ [92, s[i]] := by
  rw [List.take_succ_eq_append_getElem (show i < s.data.toList.length from h), esc_snoc]; rfl
theorem bareC (c : UInt8) : (c != 42 && c != 63 && c != 92) = ((c.toNat : Int) != 42 && (c.toNat : Int) != 63 && (c.toNat : Int) != 92) := by
  have h : ∀ d : UInt8, (c != d) = ((c.toNat : Int) != (d.toNat : Int)) := fun d => by
    rw [Bool.eq_iff_iff, bne_iff_ne, bne_iff_ne]
    exact not_congr ⟨fun e => by rw [e], fun e => u8_eq (by omega)⟩
  rw [h 42, h 63, h 92]; rfl
end PM

set_option maxRecDepth 100000 in
set_option maxHeartbeats 16000000 in
theorem patternEscapes_walk (s : ByteArray) (w : World) : Calls Try.prog 5 #[.string s] w fun e w' => e = .returned (.bool true) ∧ Below w.heap.size w w' := by
  obtain ⟨i0, hi, hz0, hz1, hz2⟩ := info_parts info_u8
  have HI : Hid (Try.prog.info? TU8 = some i0 ∧ i0.zero = some (.int .u8 0) ∧ i0.size = 1 ∧ i0.bytes = 1) := Lib.hid ⟨hi, hz0, hz1, hz2⟩
  clear hi hz0 hz1 hz2
  go_enter Try.func5, Try.ntmps5
  go_wp2_with fail
  refine (works_any w).mono ?_
  rintro e w1 ⟨rfl, hb1⟩
  have H1 := Lib.hid hb1
  have HO := Lib.hid ((OB.nil w).on hb1)
  clear hb1
  by_cases hl : 32 < s.size
  · have hl2 : (32 : Int) < s.size := by omega
    go_wp2_with fail
    go_ret
    exact ⟨rfl, H1.out⟩
  have hl2 : (s.size : Int) ≤ 32 := by omega
  go_wp2_with fail
  clear H1
  go_loopg [3, 4, 5] (s.size + 1) (fun k v3 v4 v5 wr => ∃ i : Nat, v5 = .int .i64 i ∧ i ≤ s.size ∧ s.size - i < k ∧ v4 = .bool (bareB (s.data.toList.take i)) ∧ Hid (OB w wr v3 (esc (s.data.toList.take i))))
  case atStart => exact ⟨0, rfl, by omega, by omega, rfl, HO⟩
  case round =>
    clear HO
    obtain ⟨i, rfl, hil, hik, rfl, HO⟩ := hrel
    have hlen : (esc (s.data.toList.take i)).length ≤ 64 := by
      rw [esc_len]
      have h2 : (s.data.toList.take i).length ≤ i := by rw [List.length_take]; omega
      omega
    by_cases hi : i < s.size
    · have hi2 : (i : Int) < s.size := by omega
      have hi0 : (0 : Int) ≤ i := by omega
      have HX := Lib.hid (esc_take s i hi)
      have HBB := Lib.hid (bareB_snoc s i hi)
      have HOA := Lib.hid (HO.out.on (below_new wr (.cells #[.int .u8 92, .int .u8 s[i].toNat] TU8)))
      have HSZ := Lib.hid (show w.heap.size ≤ wr.heap.size from HO.out.up.size)
      clear HO
      generalize esc (s.data.toList.take i) = L at *
      generalize bareB (s.data.toList.take i) = bb at *
      have HBC := Lib.hid (bareC s[i])
      cases bb
      · go_wp2_with (refine wpList_append_own _ rfl (.tmp 25) (.tmp 29) 42 rfl w.heap.size TU8 i0 (.int .u8 0) 1 1 Try.underlying42 HI.out.1 HI.out.2.1 HI.out.2.2.1 HI.out.2.2.2 rfl (by decide) _ _ _ rfl HOA.out.own ⟨wr.heap.size, 0, none⟩ 2 2 [.int .u8 92, .int .u8 s[i].toNat] rfl rfl (World.news_of_block (heap_alloc_new wr _)) (by intro u hu; simp at hu; rcases hu with rfl | rfl <;> rfl) (by unfold maxLen; omega) (by omega) (by have := HSZ.out; simp; omega) ?_; intro v9 w9 hown9 hgrow9 _; have HO9 := Lib.hid (HOA.out.app (x := [92, s[i]]) hown9 hgrow9); clear hown9 hgrow9 HOA)
        all_goals
          go_roundg (gk - 1)
          case measure => omega
          case rel => exact ⟨i + 1, by go_num, by omega, by omega, by rw [HBB.out, HBC.out]; first | rfl | (simp [*]; done), by rw [HX.out]; exact HO9⟩
      · go_wp2_with (refine wpList_append_own _ rfl (.tmp 25) (.tmp 29) 42 rfl w.heap.size TU8 i0 (.int .u8 0) 1 1 Try.underlying42 HI.out.1 HI.out.2.1 HI.out.2.2.1 HI.out.2.2.2 rfl (by decide) _ _ _ rfl HOA.out.own ⟨wr.heap.size, 0, none⟩ 2 2 [.int .u8 92, .int .u8 s[i].toNat] rfl rfl (World.news_of_block (heap_alloc_new wr _)) (by intro u hu; simp at hu; rcases hu with rfl | rfl <;> rfl) (by unfold maxLen; omega) (by omega) (by have := HSZ.out; simp; omega) ?_; intro v9 w9 hown9 hgrow9 _; have HO9 := Lib.hid (HOA.out.app (x := [92, s[i]]) hown9 hgrow9); clear hown9 hgrow9 HOA)
        all_goals
          go_roundg (gk - 1)
          case measure => omega
          case rel => exact ⟨i + 1, by go_num, by omega, by omega, by rw [HBB.out, HBC.out]; first | rfl | (simp [*]; done), by rw [HX.out]; exact HO9⟩
    · obtain rfl : i = s.size := by omega
      have hex : ¬ ((s.size : Int) < s.size) := by omega
      have hall : s.data.toList.take s.size = s.data.toList := List.take_of_length_le (Nat.le_refl _)
      rw [hall] at HO hlen ⊢
      have hs32 : s.data.toList.length ≤ 32 := by have : s.data.toList.length = s.size := rfl; omega
      have HT1 := Lib.hid (tree_lit (s := s.data.toList) (by omega))
      have HT2 := Lib.hid (tree_esc_glob hs32)
      have HT3 := Lib.hid (tree_esc_re hs32)
      have HT4 := Lib.hid (fun h => tree_bare (s := s.data.toList) (by omega) (bareB_iff h))
      have HOK := Lib.hid (tree_ok HT1.out).1
      clear hs32 hall
      generalize joined 3 (lits s.data.toList) = t at *
      generalize bareB s.data.toList = bb at *
      generalize esc s.data.toList = L at *
      obtain ⟨ao, cap, hv9⟩ := own_form HO.out.own
      subst hv9
      go_wp2_with fail
      refine (tree_any 1 s wr (by omega)).mono ?_
      rintro e a1 hm
      rw [HT1.out] at hm
      obtain ⟨K1, rfl, hK, hb⟩ := hm
      obtain ⟨A1, c1, rfl⟩ := hK.slice
      replace HO := Lib.hid (HO.out.on hb)
      clear hb
      simp only [nodeV, spotV, spotC, nodeC]
      go_wp2_with fail
      obtain ⟨hA, hAB⟩ := TrAt.made hK
      replace HO := Lib.hid (HO.out.on hAB)
      have HA1 := Lib.hid hA
      clear hA hAB hK
      generalize (a1.alloc (.cells #[.int .i64 t.op, .int .u64 (word t.set 0), .int .u64 (word t.set 1), .int .u64 (word t.set 2), .int .u64 (word t.set 3), .slice A1 t.kids.length c1] TN)).alloc (.cells #[.int .i64 0, .int .i64 0] TSp) = w11 at *
      generalize a1.heap.size = B1 at *
      rw [conv_own HO.out.own]
      go_wp2_with fail
      refine (tree_any 2 (bs L) w11 (by rw [bs_sz]; omega)).mono ?_
      rintro e a2 hm
      rw [show (bs L).data.toList = L from rfl, HT2.out] at hm
      obtain ⟨K2, rfl, hK, hb⟩ := hm
      obtain ⟨A2, c2, rfl⟩ := hK.slice
      replace HO := Lib.hid (HO.out.on hb)
      replace HA1 := Lib.hid (HA1.out.on hb)
      clear hb
      simp only [nodeV, spotV, spotC, nodeC]
      go_wp2_with fail
      obtain ⟨hA, hAB⟩ := TrAt.made hK
      replace HO := Lib.hid (HO.out.on hAB)
      replace HA1 := Lib.hid (HA1.out.on hAB)
      have HA2 := Lib.hid hA
      clear hA hAB hK
      generalize (a2.alloc (.cells #[.int .i64 t.op, .int .u64 (word t.set 0), .int .u64 (word t.set 1), .int .u64 (word t.set 2), .int .u64 (word t.set 3), .slice A2 t.kids.length c2] TN)).alloc (.cells #[.int .i64 0, .int .i64 0] TSp) = w12 at *
      generalize a2.heap.size = B2 at *
      rw [conv_own HO.out.own]
      go_wp2_with fail
      refine (tree_any 3 (bs L) w12 (by rw [bs_sz]; omega)).mono ?_
      rintro e a3 hm
      rw [show (bs L).data.toList = L from rfl, HT3.out] at hm
      obtain ⟨K3, rfl, hK, hb⟩ := hm
      obtain ⟨A3, c3, rfl⟩ := hK.slice
      replace HO := Lib.hid (HO.out.on hb)
      replace HA1 := Lib.hid (HA1.out.on hb)
      replace HA2 := Lib.hid (HA2.out.on hb)
      clear hb
      simp only [nodeV, spotV, spotC, nodeC]
      go_upto_region 15 with (fail)
      obtain ⟨hA, hAB⟩ := TrAt.made hK
      replace HO := Lib.hid (HO.out.on hAB)
      replace HA1 := Lib.hid (HA1.out.on hAB)
      replace HA2 := Lib.hid (HA2.out.on hAB)
      have HA3 := Lib.hid hA
      clear hA hAB hK
      generalize (a3.alloc (.cells #[.int .i64 t.op, .int .u64 (word t.set 0), .int .u64 (word t.set 1), .int .u64 (word t.set 2), .int .u64 (word t.set 3), .slice A3 t.kids.length c3] TN)).alloc (.cells #[.int .i64 0, .int .i64 0] TSp) = w13 at *
      generalize a3.heap.size = B3 at *
      have r1 := HA1.out.err.1
      obtain ⟨k10, k11, k12, k13, k14, k15⟩ := HA1.out.cells
      have r2 := HA2.out.err.1
      obtain ⟨k20, k21, k22, k23, k24, k25⟩ := HA2.out.cells
      have r3 := HA3.out.err.1
      obtain ⟨k30, k31, k32, k33, k34, k35⟩ := HA3.out.cells
      go_wp2_with fail
      clear k10 k11 k12 k13 k14 k15 k20 k21 k22 k23 k24 k25 k30 k31 k32 k33 k34 k35
      clear r1 r2 r3
      refine (TrAt.same HA1.out HA2.out HOK.out).mono ?_
      rintro e w14 ⟨rfl, hb⟩
      replace HO := Lib.hid (HO.out.on hb)
      replace HA1 := Lib.hid (HA1.out.on hb)
      replace HA2 := Lib.hid (HA2.out.on hb)
      replace HA3 := Lib.hid (HA3.out.on hb)
      clear hb
      obtain ⟨k10, k11, k12, k13, k14, k15⟩ := HA1.out.cells
      obtain ⟨k30, k31, k32, k33, k34, k35⟩ := HA3.out.cells
      go_wp2_with fail
      clear k10 k11 k12 k13 k14 k15 k30 k31 k32 k33 k34 k35
      refine (TrAt.same HA1.out HA3.out HOK.out).mono ?_
      rintro e w15 ⟨rfl, hb⟩
      replace HO := Lib.hid (HO.out.on hb)
      replace HA1 := Lib.hid (HA1.out.on hb)
      clear hb
      clear HA2 HA3
      go_wp2_with fail
      cases bb
      · obtain ⟨r, hr⟩ : ∃ r, tree 2 s.data.toList = r := ⟨_, rfl⟩
        have HR := Lib.hid hr
        clear hr
        refine (tree_any 2 s w15 (by omega)).mono ?_
        rintro e w16 hm
        rw [HR.out] at hm
        clear HR
        cases r
        case ok t2 =>
          obtain ⟨K4, rfl, hK, hb⟩ := hm
          obtain ⟨A4, c4, rfl⟩ := hK.slice
          have HB := Lib.hid (below_then (HO.out.on hb).up (TrAt.made hK).2 (Nat.le_refl _))
          clear hb hK HO HA1
          simp only [nodeV, spotV, spotC, nodeC]
          go_wp2_with fail
          go_ret
          exact ⟨rfl, HB.out⟩
        all_goals
          obtain ⟨rfl, hb⟩ := hm
          have HB := Lib.hid (fun X Y => below_then (HO.out.on hb).up (two_below w16 X Y) (Nat.le_refl _))
          clear hb HO HA1
          simp only [zN, spotV, spotC]
          go_wp2_with fail
          go_ret
          exact ⟨rfl, HB.out _ _⟩
      · have HT5 := Lib.hid (HT4.out rfl)
        refine (tree_any 2 s w15 (by omega)).mono ?_
        rintro e a4 hm
        rw [HT5.out] at hm
        obtain ⟨K4, rfl, hK, hb⟩ := hm
        obtain ⟨A4, c4, rfl⟩ := hK.slice
        replace HO := Lib.hid (HO.out.on hb)
        replace HA1 := Lib.hid (HA1.out.on hb)
        clear hb
        simp only [nodeV, spotV, spotC, nodeC]
        go_upto_region 18 with (fail)
        obtain ⟨hA, hAB⟩ := TrAt.made hK
        replace HO := Lib.hid (HO.out.on hAB)
        replace HA1 := Lib.hid (HA1.out.on hAB)
        have HA4 := Lib.hid hA
        clear hA hAB hK
        generalize (a4.alloc (.cells #[.int .i64 t.op, .int .u64 (word t.set 0), .int .u64 (word t.set 1), .int .u64 (word t.set 2), .int .u64 (word t.set 3), .slice A4 t.kids.length c4] TN)).alloc (.cells #[.int .i64 0, .int .i64 0] TSp) = w14 at *
        generalize a4.heap.size = B4 at *
        have r4 := HA4.out.err.1
        obtain ⟨k10, k11, k12, k13, k14, k15⟩ := HA1.out.cells
        obtain ⟨k40, k41, k42, k43, k44, k45⟩ := HA4.out.cells
        go_wp2_with fail
        clear k10 k11 k12 k13 k14 k15 k40 k41 k42 k43 k44 k45
        clear r4
        refine (TrAt.same HA1.out HA4.out HOK.out).mono ?_
        rintro e w17 ⟨rfl, hb⟩
        replace HO := Lib.hid (HO.out.on hb)
        clear hb
        go_wp2_with fail
        go_ret
        exact ⟨rfl, HO.out.up⟩
end Go.Proofs.Ytlfhjmdbkifciaa
