/- The document's Sign and Quote. -/
import Derived.Test.YtlfhjmdbkifciaaPatScan
import Derived.Deep.LoopGhost
import Derived.BigQuiet
namespace Go.Proofs.Ytlfhjmdbkifciaa
open Go.RowKit PM

theorem below_drewq (B : Nat) (w : World) (n : Nat) : Below B w (w.drewN n) := ⟨rfl, rfl, rfl, Nat.le_refl _, fun _ _ => rfl⟩
theorem dig_ext (n : Nat) (h : n < 16) : (⟨#[48, 49, 50, 51, 52, 53, 54, 55, 56, 57, 97, 98, 99, 100, 101, 102]⟩ : ByteArray).extract n (n + 1) = ⟨#[dig n]⟩ := by
  have : n = 0 ∨ n = 1 ∨ n = 2 ∨ n = 3 ∨ n = 4 ∨ n = 5 ∨ n = 6 ∨ n = 7 ∨ n = 8 ∨ n = 9 ∨ n = 10 ∨ n = 11 ∨ n = 12 ∨ n = 13 ∨ n = 14 ∨ n = 15 := by omega
  rcases this with rfl | rfl | rfl | rfl | rfl | rfl | rfl | rfl | rfl | rfl | rfl | rfl | rfl | rfl | rfl | rfl <;> rfl

set_option maxRecDepth 100000 in
set_option maxHeartbeats 1000000 in
theorem rsign_any (c : UInt8) (w : World) : Calls Try.prog 47 #[.int .u8 c.toNat] w fun e w' => e = .returned (.string (bs (sign c))) ∧ Below w.heap.size w w' := by
  have hno : ∀ {n : Nat}, ¬ c.toNat = n → ((c.toNat : Int) == (n : Int)) = false := fun h => by rw [beq_eq_false_iff_ne]; omega
  by_cases h34 : c.toNat = 34
  · have j1 : ((c.toNat : Int) == 34) = true := by rw [h34]; rfl
    obtain rfl : c = 34 := u8_eq h34
    go_enter Try.func47, Try.ntmps47
    go_wp2_with fail
    go_ret
    exact ⟨rfl, Below.refl _ _⟩
  have j1 : ((c.toNat : Int) == 34) = false := hno h34
  by_cases h92 : c.toNat = 92
  · obtain rfl : c = 92 := u8_eq h92
    go_enter Try.func47, Try.ntmps47
    go_wp2_with fail
    go_ret
    exact ⟨rfl, Below.refl _ _⟩
  have j2 : ((c.toNat : Int) == 92) = false := hno h92
  by_cases h10 : c.toNat = 10
  · obtain rfl : c = 10 := u8_eq h10
    go_enter Try.func47, Try.ntmps47
    go_wp2_with fail
    go_ret
    exact ⟨rfl, Below.refl _ _⟩
  have j3 : ((c.toNat : Int) == 10) = false := hno h10
  by_cases h13 : c.toNat = 13
  · obtain rfl : c = 13 := u8_eq h13
    go_enter Try.func47, Try.ntmps47
    go_wp2_with fail
    go_ret
    exact ⟨rfl, Below.refl _ _⟩
  have j4 : ((c.toNat : Int) == 13) = false := hno h13
  by_cases h9 : c.toNat = 9
  · obtain rfl : c = 9 := u8_eq h9
    go_enter Try.func47, Try.ntmps47
    go_wp2_with fail
    go_ret
    exact ⟨rfl, Below.refl _ _⟩
  have j5 : ((c.toNat : Int) == 9) = false := hno h9
  have hshort : short c.toNat = 0 := by unfold short; simp [h34, h92, h10, h13, h9]
  have hcv := conv_lit w [c]
  have HB := Lib.hid (below_new w (.cells (Lib.byteCells [c]).toArray TU8))
  simp only [Lib.byteCells, List.map_cons, List.map_nil, List.length_cons, List.length_nil] at hcv HB
  by_cases hr : 32 ≤ c.toNat ∧ c.toNat ≤ 126
  · have hs : sign c = [c] := by
      have : plain c.toNat = true := by unfold plain; simp [h34, h92, hr.1, hr.2]
      simp [sign, this]
    rw [hs]
    have k1 : (32 : Int) ≤ c.toNat := by omega
    have k2 : (c.toNat : Int) ≤ 126 := by omega
    clear hs hno hshort h34 h92 h10 h13 h9 hr
    go_enter Try.func47, Try.ntmps47
    go_wp2_with fail
    go_ret
    exact ⟨rfl, HB.out⟩
  have hpl : plain c.toNat = false := by
    unfold plain
    by_cases h1 : 32 ≤ c.toNat
    · have : ¬ c.toNat ≤ 126 := fun h => hr ⟨h1, h⟩
      simp [this]
    · simp [h1]
  have hs : sign c = [92, 120, dig (c.toNat / 16), dig (c.toNat % 16)] := by simp [sign, hpl, hshort]
  rw [hs]
  clear hcv HB
  have hc := c.toNat_lt
  have hc' : (c.toNat : Int) < 256 := by omega
  have hlt1 : (c.toNat : Int) / 16 < 16 := by omega
  have hlt2 : (0 : Int) ≤ (c.toNat : Int) / 16 := by omega
  have hlt3 : (0 : Int) ≤ (c.toNat : Int) % 16 := by omega
  have hlt4 : (c.toNat : Int) % 16 < 16 := by omega
  have hd : (decide ((32 : Int) ≤ c.toNat) = false) ∨ (decide ((32 : Int) ≤ c.toNat) = true ∧ decide ((c.toNat : Int) ≤ 126) = false) := by
    by_cases h1 : 32 ≤ c.toNat
    · exact .inr ⟨by simp; omega, by simp; omega⟩
    · exact .inl (by simp; omega)
  clear hs hno hshort hpl h34 h92 h10 h13 h9 hr hc
  have hm1 : c.toNat / 16 < 16 := by omega
  have hm2 : c.toNat % 16 < 16 := by omega
  rcases hd with k1 | ⟨k1, k2⟩
  all_goals
    go_enter Try.func47, Try.ntmps47
    go_wp2_with fail
    go_quiet (fail)
    go_wp2_with fail
    go_ret
    exact ⟨by rw [dig_ext _ hm1, dig_ext _ hm2]; rfl, below_drewq _ _ nq⟩

abbrev TU8s : TypeId := 42

structure OB (w wr : World) (v : Value) (l : List UInt8) : Prop where
  own : wr.ownsRow w.heap.size TU8 1 v l.length (Lib.byteCells l)
  up : Below w.heap.size w wr
theorem OB.nil (w : World) : OB w w (.slice none 0 0) [] := ⟨World.ownsRow_nil _ _ _ _, Below.refl _ _⟩
theorem OB.on {w wr w' : World} {v : Value} {l : List UInt8} (h : OB w wr v l) (hb : Below wr.heap.size wr w') : OB w w' v l :=
  ⟨h.own.kept (grown_below hb none) (Classical.em _), below_then h.up hb (Nat.le_refl _)⟩
theorem OB.app {w wr w' : World} {v v' : Value} {l x : List UInt8} (h : OB w wr v l) (hown : w'.ownsRow w.heap.size TU8 1 v' (l.length + x.length) (Lib.byteCells l ++ Lib.byteCells x)) (hg : wr.grownBy w' v.ownBlock) : OB w w' v' (l ++ x) :=
  ⟨by rw [List.length_append, Lib.byteCells_append]; exact hown, h.up.grown hg h.up.size (fun k hk => (h.own.lt k hk).1)⟩

theorem take_signs (s : ByteArray) (i : Nat) (h : i < s.size) : signs (s.data.toList.take (i + 1)) = signs (s.data.toList.take i) ++ sign s[i] := by
  rw [List.take_succ_eq_append_getElem (show i < s.data.toList.length from h)]
  simp only [signs, List.flatMap_append, List.flatMap_cons, List.flatMap_nil, List.append_nil]
  rfl
theorem signs_len4 (l : List UInt8) : (signs l).length ≤ 4 * l.length := by
  induction l with
  | nil => simp [signs]
  | cons c l ih =>
    have := (sign_pos c).2
    simp only [signs, List.flatMap_cons, List.length_append, List.length_cons] at *
    omega

set_option maxRecDepth 100000 in
set_option maxHeartbeats 4000000 in
theorem rquote_any (s : ByteArray) (w : World) (hs : s.size ≤ 100000000) :
    Calls Try.prog 22 #[.string s] w fun e w' => e = .returned (.string (bs (quote s.data.toList))) ∧ Below w.heap.size w w' := by
  obtain ⟨i0, hi, hz0, hz1, hz2⟩ := info_parts info_u8
  have HI : Hid (Try.prog.info? TU8 = some i0 ∧ i0.zero = some (.int .u8 0) ∧ i0.size = 1 ∧ i0.bytes = 1) := Lib.hid ⟨hi, hz0, hz1, hz2⟩
  clear hi hz0 hz1 hz2
  have H0 := Lib.hid ((OB.nil w).on (below_new w (.cells #[.int .u8 34] TU8)))
  go_enter Try.func22, Try.ntmps22
  go_wp2_with (refine wpList_append_own _ rfl (.tmp 5) (.tmp 6) 42 rfl w.heap.size TU8 i0 (.int .u8 0) 1 1 Try.underlying42 HI.out.1 HI.out.2.1 HI.out.2.2.1 HI.out.2.2.2 rfl (by decide) _ _ _ rfl H0.out.own ⟨w.heap.size, 0, none⟩ 1 1 [.int .u8 34] rfl rfl (World.news_of_block (heap_alloc_new w _)) (by intro u hu; simp at hu; subst hu; rfl) (by unfold maxLen; decide) (by decide) (by simp) ?_; intro v1 w1 hown1 hgrow1 _)
  have H1 := Lib.hid (H0.out.app (x := [34]) hown1 hgrow1)
  clear hown1 hgrow1 H0
  go_loopg [3, 4] (s.size + 1) (fun k v3 v4 wr => ∃ i : Nat, v4 = .int .i64 i ∧ i ≤ s.size ∧ s.size - i < k ∧ Hid (OB w wr v3 (34 :: signs (s.data.toList.take i))))
  case atStart => exact ⟨0, rfl, by omega, by omega, H1⟩
  case round =>
    clear H1
    obtain ⟨i, rfl, hil, hik, HO⟩ := hrel
    have hlen : (34 :: signs (s.data.toList.take i)).length ≤ 400000001 := by
      have h1 := signs_len4 (s.data.toList.take i)
      have h2 : (s.data.toList.take i).length ≤ i := by rw [List.length_take]; omega
      rw [List.length_cons]; omega
    have HT := Lib.hid (take_signs s i)
    by_cases hi : i < s.size
    · have hi2 : (i : Int) < s.size := by omega
      have hi0 : (0 : Int) ≤ i := by omega
      have hx := HT.out hi
      have hsl := (sign_pos s[i]).2
      have HX := Lib.hid hx
      clear HT hx
      generalize signs (s.data.toList.take i) = L at *
      go_wp2_with fail
      refine (rsign_any s[i] wr).mono ?_
      rintro e w2 ⟨rfl, hb⟩
      have HO2 := Lib.hid (HO.out.on hb)
      clear hb HO
      have hbz : (bs (sign s[i])).size ≤ 4 := by rw [bs_sz]; exact hsl
      go_wp2_with (refine Lib.wpList_append_own_string _ rfl (.tmp 14) (.tmp 18) 42 9 rfl w.heap.size TU8 i0 Try.underlying42 Try.underlying9 HI.out.1 HI.out.2.1 HI.out.2.2.1 HI.out.2.2.2 _ _ _ rfl HO2.out.own (bs (sign s[i])) rfl (by unfold maxLen; omega) (by omega) HO2.out.up.size ?_; intro v3 w3 hown3 hgrow3 _)
      have H3 := Lib.hid (HO2.out.app (x := sign s[i]) (by rw [← bs_sz]; exact hown3) hgrow3)
      clear hown3 hgrow3 HO2
      go_wp2_with fail
      go_roundg (gk - 1)
      case measure => omega
      case rel => exact ⟨i + 1, by go_num, by omega, by omega, by rw [HX.out]; exact H3⟩
    · obtain rfl : i = s.size := by omega
      have hex : ¬ ((s.size : Int) < s.size) := by omega
      have hall : s.data.toList.take s.size = s.data.toList := List.take_of_length_le (Nat.le_refl _)
      rw [hall] at HO hlen
      clear HT hall
      have HQ : Hid (quote s.data.toList = (34 :: signs s.data.toList) ++ [34]) := Lib.hid rfl
      generalize 34 :: signs s.data.toList = L at *
      have HOA := Lib.hid (HO.out.on (below_new wr (.cells #[.int .u8 34] TU8)))
      go_wp2_with (refine wpList_append_own _ rfl (.tmp 20) (.tmp 21) 42 rfl w.heap.size TU8 i0 (.int .u8 0) 1 1 Try.underlying42 HI.out.1 HI.out.2.1 HI.out.2.2.1 HI.out.2.2.2 rfl (by decide) _ _ _ rfl HOA.out.own ⟨wr.heap.size, 0, none⟩ 1 1 [.int .u8 34] rfl rfl (World.news_of_block (heap_alloc_new wr _)) (by intro u hu; simp at hu; subst hu; rfl) (by unfold maxLen; omega) (by omega) (by have := HO.out.up.size; simp; omega) ?_; intro v3 w3 hown3 hgrow3 _)
      have H3 := Lib.hid (HOA.out.app (x := [34]) hown3 hgrow3)
      clear hown3 hgrow3 HOA HO
      obtain ⟨M, hM⟩ : ∃ M, L ++ [34] = M := ⟨_, rfl⟩
      rw [hM] at H3 HQ
      clear hM
      obtain ⟨ao, cap, hv9⟩ := own_form H3.out.own
      subst hv9
      have hcv := conv_own H3.out.own
      go_wp2_with fail
      rw [hcv]
      go_wp2_with fail
      go_ret
      exact ⟨by rw [HQ.out]; rfl, H3.out.up⟩
end Go.Proofs.Ytlfhjmdbkifciaa
