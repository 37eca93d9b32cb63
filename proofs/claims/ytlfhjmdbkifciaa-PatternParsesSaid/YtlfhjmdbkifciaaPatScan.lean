/- A text in quotes is read: the walk. -/
import Derived.Test.YtlfhjmdbkifciaaPatScanPre
import Derived.Shelf.Abstract
import Derived.Deep.QuietTactic
import Derived.Deep.Cut
import Derived.BigQuiet
namespace Go.Proofs.Ytlfhjmdbkifciaa
open Go.RowKit PM Go.Shelf

theorem en2 : ∀ args w, (callFunc 59 args).run Try.prog w = .ok (.enter 59 args) w := enters_of Try.func59 (by kernel_rfl) rfl
theorem en3 : ∀ args w, (callFunc 60 args).run Try.prog w = .ok (.enter 60 args) w := enters_of Try.func60 (by kernel_rfl) rfl
theorem en4 : ∀ args w, (callFunc 62 args).run Try.prog w = .ok (.enter 62 args) w := enters_of Try.func62 (by kernel_rfl) rfl
theorem en5 : ∀ args w, (callFunc 64 args).run Try.prog w = .ok (.enter 64 args) w := enters_of Try.func64 (by kernel_rfl) rfl
theorem en6 : ∀ args w, (callFunc 65 args).run Try.prog w = .ok (.enter 65 args) w := enters_of Try.func65 (by kernel_rfl) rfl

theorem nby {c x : UInt8} (h : c ≠ x) (n : Nat) (hx : x.toNat = n) : ((c.toNat : Int) != (n : Int)) = true := by
  rw [bne_iff_ne]; intro e; exact h (u8_eq (by omega))

/-- the boxes of scan, just made -/
theorem scan_boxes (s : ByteArray) (a : Nat) (w : World) : SB ((w.alloc (.cells #[.string s] 9)).alloc (.cells #[.int .i64 a] TI)) w.heap.size s a ∧ Below w.heap.size w ((w.alloc (.cells #[.string s] 9)).alloc (.cells #[.int .i64 a] TI)) := by
  have b1 := below_new w (.cells #[.string s] 9)
  have b2 := below_new (w.alloc (.cells #[.string s] 9)) (.cells #[.int .i64 a] TI)
  have h2 := heap_alloc_new (w.alloc (.cells #[.string s] 9)) (.cells #[.int .i64 a] TI)
  simp only [World.size_alloc] at b2 h2
  exact ⟨⟨(b2.block _ (by omega)).trans (heap_alloc_new w _), h2⟩, b1.trans (b2.mono (by omega))⟩

set_option maxRecDepth 100000 in
set_option maxHeartbeats 16000000 in
theorem scan_any (s : ByteArray) (a : Nat) (most : Int) (w : World) (hs : s.size ≤ 100000000) (_ha : a ≤ s.size) (_hm : -1 ≤ most) :
    Calls Try.prog 40 #[.string s, .int .i64 a, .int .i64 most] w (ScanIs w (scan most s.data.toList a)) := by
  have hmf : ∀ (fn : Fn) (first cap : Array Value) (w : World), (Instr.makeFunc fn first cap).run Try.prog w = .ok (.func fn first cap) w := fun _ _ _ _ => rfl
  obtain ⟨i0, hi, hz0, hz1, hz2⟩ := info_parts info_u8
  obtain ⟨i1, hj, hy0, hy1, hy2⟩ := info_parts info_int
  have HI : Hid (Try.prog.info? TU8 = some i0 ∧ i0.zero = some (.int .u8 0) ∧ i0.size = 1 ∧ i0.bytes = 1) := Lib.hid ⟨hi, hz0, hz1, hz2⟩
  have HJ : Hid (Try.prog.info? TI = some i1 ∧ i1.zero = some (.int .i64 0) ∧ i1.size = 1 ∧ i1.bytes = 8) := Lib.hid ⟨hj, hy0, hy1, hy2⟩
  clear hi hz0 hz1 hz2 hj hy0 hy1 hy2
  obtain ⟨hS, hB⟩ := scan_boxes s a w
  obtain ⟨r, hr⟩ : ∃ r, scan most s.data.toList a = r := ⟨_, rfl⟩
  rw [hr]
  have HR := Lib.hid hr; have HS := Lib.hid hS; have HB := Lib.hid hB
  clear hr hS hB
  go_enter Try.func40, Try.ntmps40
  go_wp2_with fail
  change Calls _ _ _ ((w.alloc (.cells #[.string s] 9)).alloc (.cells #[.int .i64 a] TI)) _
  generalize (w.alloc (.cells #[.string s] 9)).alloc (.cells #[.int .i64 a] TI) = W0 at *
  have hr := HR.out
  unfold scan at hr
  rcases hh : s.data.toList[a]? with _ | c
  · rw [if_neg (by rw [drop_none hh]; simp)] at hr
    subst hr
    refine (need_end _ _ w.heap.size s a W0 HS.out hh (by omega)).mono ?_
    rintro e w1 ⟨rfl, hb⟩
    have HUP := Lib.hid (below_then HB.out hb (Nat.le_refl _))
    clear hb HR HS HB hmf
    go_wp2_with fail
    exact ⟨rfl, scanIs_wrong rfl HUP.out⟩
  by_cases h34 : c = 34
  case neg =>
    rw [if_neg (by rw [drop_some hh]; simpa using h34)] at hr
    subst hr
    refine (need0_no _ (fun n => n == 34) w.heap.size s a c W0 en2 (ok2_any c W0) HS.out hh (by rw [beq_eq_false_iff_ne]; exact fun e => h34 (u8_eq e)) (by omega)).mono ?_
    rintro e w1 ⟨rfl, hb⟩
    have HUP := Lib.hid (below_then HB.out hb (Nat.le_refl _))
    clear hb HR HS HB hmf
    go_wp2_with fail
    exact ⟨rfl, scanIs_wrong rfl HUP.out⟩
  subst h34
  rw [if_pos (by rw [drop_some hh]; rfl)] at hr
  have HR1 := Lib.hid hr
  obtain ⟨hla, -⟩ := byte_at s a 34 hh
  refine (need0_yes _ (fun n => n == 34) w.heap.size s a 34 W0 en2 (ok2_any 34 W0) HS.out hh rfl (by omega)).mono ?_
  rintro e w1 ⟨rfl, hsb, hg⟩
  have hQ : QS w s w1 (a + 1) (.slice none 0 0) [] (.slice none 0 0) [] := ⟨hsb, World.ownsRow_nil _ _ _ _, World.ownsRow_nil _ _ _ _,
    ⟨hg.os.trans HB.out.os, hg.tape.trans HB.out.tape, hg.output.trans HB.out.output, Nat.le_trans HB.out.size hg.size, fun k hk => (hg.block k (by have := HB.out.size; omega) (by simp; omega)).trans (HB.out.block k hk)⟩⟩
  have HQ := Lib.hid hQ
  clear hsb hg hQ hr HR HS HB hh
  go_wp2_with fail
  go_loopg [9, 10] (s.size + 1) (fun k v9 v10 wr => ∃ (a : Nat) (out : List UInt8) (pl : List Nat), a ≤ s.size ∧ s.size - a < k ∧ out.length ≤ a ∧ pl.length ≤ a ∧ Hid (scanL most k (s.data.toList.drop a) a out pl = r) ∧ Hid (QS w s wr a v9 out v10 pl))
  case atStart => exact ⟨a + 1, [], [], hla, by omega, by simp, by simp, HR1, HQ⟩
  case round =>
    clear HQ HR1 _ha hla
    obtain ⟨a, out, pl, hal, hak, hol, hpl, HR, HQ⟩ := hrel
    obtain ⟨k, rfl⟩ : ∃ k, gk = k + 1 := ⟨gk - 1, by omega⟩
    have hr := HR.out
    simp only [scanL] at hr
    have HR1 := Lib.hid hr
    clear hr HR
    have c1 := HQ.out.sb.c1
    have hai : (a : Int) ≤ 100000000 := by omega
    have ha0 : (0 : Int) ≤ a := by omega
    go_upto_region 6 with (refine wpList_append_own _ rfl (.tmp 18) (.tmp 20) TIs rfl (w.heap.size + 2) TI i1 (.int .i64 0) 1 8 Try.underlying72 HJ.out.1 HJ.out.2.1 HJ.out.2.2.1 HJ.out.2.2.2 rfl (by decide) _ _ _ rfl (HQ.out.pl.alloc _) ⟨wr.heap.size, 0, none⟩ 1 1 [.int .i64 a] rfl rfl (World.news_of_block (heap_alloc_new wr _)) (by intro u hu; simp at hu; subst hu; rfl) (by unfold maxLen; omega) (by omega) (by have := HQ.out.sz; simp; omega) ?_; intro v10' w2 hown hgrow _)
    have HQ2 := Lib.hid ((HQ.out.on (below_new wr _)).appPl (n := a) hown hgrow)
    clear hown hgrow HQ c1
    obtain ⟨ao, cap, hv9⟩ := own_form HQ2.out.out
    subst hv9
    have c0 := HQ2.out.sb.c0; have c1 := HQ2.out.sb.c1
    have hr := HR1.out
    by_cases hlong : (out.length : Int) = most ∧ (s.data.toList.drop a).head? ≠ some 34
    · rw [if_pos hlong] at hr
      subst hr
      have j1 : ((out.length : Int) == most) = true := by rw [beq_iff_eq]; exact hlong.1
      have HUP := Lib.hid HQ2.out.up
      rcases hn : s.data.toList[a]? with _ | c
      · have hla := byte_none s a hn
        have j2 : decide (s.size ≤ a) = true := by simp; omega
        clear HR1 HQ2 hlong hn hmf
        go_wp2_with fail
        exact ⟨rfl, scanIs_long rfl HUP.out⟩
      · obtain ⟨hla, rfl⟩ := byte_at s a c hn
        have hne : s[a] ≠ 34 := fun e => hlong.2 (by rw [drop_some hn, e]; rfl)
        have j2 : decide (s.size ≤ a) = false := by simp; omega
        have j3 : ((s[a].toNat : Int) != 34) = true := nby hne 34 rfl
        have hla2 : (a : Int) < s.size := by omega
        clear HR1 HQ2 hlong hn hmf hne
        go_wp2_with fail
        exact ⟨rfl, scanIs_long rfl HUP.out⟩
    rw [if_neg hlong] at hr
    rcases hn : s.data.toList[a]? with _ | c
    · have hne : ¬ (out.length : Int) = most := fun e => hlong ⟨e, by rw [drop_none hn]; simp⟩
      have j1 : ((out.length : Int) == most) = false := by rw [beq_eq_false_iff_ne]; exact hne
      rw [if_neg (by rw [drop_none hn]; simp), st_none hn] at hr
      try simp only [] at hr
      subst hr
      clear HR1 hlong hne
      go_wp2_with fail
      refine (need_end _ _ w.heap.size s a w2 HQ2.out.sb hn (by omega)).mono ?_
      rintro e w9 ⟨rfl, hb⟩
      have HUP := Lib.hid (below_then HQ2.out.up hb (Nat.le_refl _))
      clear hb
      go_wp2_with fail
      exact ⟨rfl, scanIs_wrong rfl HUP.out⟩
    by_cases h34 : c = 34
    · subst h34
      obtain ⟨hla, h34'⟩ := byte_at s a 34 hn
      rw [if_pos (by rw [drop_some hn]; rfl)] at hr
      subst hr
      have j2 : decide (s.size ≤ a) = false := by simp; omega
      have hla2 : (a : Int) < s.size := by omega
      have j3 : (s[a].toNat : Int) = 34 := by rw [h34']; rfl
      have hm2 : ((out.length : Int) == most) = true ∨ ((out.length : Int) == most) = false := by cases ((out.length : Int) == most) <;> simp
      clear HR1 hlong h34'
      rcases hm2 with j1 | j1
      all_goals
        have J3 := Lib.hid j3
        try clear j3
        have j4 : ((s[a].toNat : Int) != 34) = false := by rw [J3.out]; rfl
        go_wp2_with fail
        clear c0 c1
        refine (need0_yes _ ok3 w.heap.size s a 34 w2 en3 (ok3_any 34 w2) HQ2.out.sb hn rfl (by omega)).mono ?_
        rintro e w3 ⟨rfl, hsb, hg⟩
        have hQ3 := HQ2.out.go hsb hg
        have HQ3 := Lib.hid hQ3
        have hcv := conv_own hQ3.out
        clear hsb hg hQ3 HQ2
        go_wp2_with fail
        go_ret2
        exact ⟨v10', rfl, ⟨HQ3.out.pl.1, HQ3.out.pl.2.imp id (fun ⟨g, cap, cur, e, hb, r⟩ => ⟨g, cap, cur, e, by omega, r⟩)⟩, HQ3.out.up⟩
    have hne : ¬ (out.length : Int) = most := fun e => hlong ⟨e, by rw [drop_some hn]; simpa using h34⟩
    have j1 : ((out.length : Int) == most) = false := by rw [beq_eq_false_iff_ne]; exact hne
    rw [if_neg (by rw [drop_some hn]; simpa using h34)] at hr
    have HR2 := Lib.hid hr
    obtain ⟨hla, -⟩ := byte_at s a c hn
    have n34 : c.toNat ≠ 34 := fun e => h34 (u8_eq e)
    have k34 : ((c.toNat : Int) == 34) = false := by rw [beq_eq_false_iff_ne]; omega
    clear HR1 hlong hne hr
    go_wp2_with fail
    clear c0 c1 j1
    by_cases hok : ok3 c.toNat = true
    case neg =>
      have hok' : ok3 c.toNat = false := by simpa using hok
      have hr := HR2.out
      simp only [ok3, Bool.or_eq_false_iff, beq_eq_false_iff_ne] at hok'
      rw [st_bad0 hn hok'.1.1 hok'.2] at hr
      try simp only [] at hr
      subst hr
      refine (need0_no _ ok3 w.heap.size s a c w2 en3 (ok3_any c w2) HQ2.out.sb hn (by simpa using hok) (by omega)).mono ?_
      clear hok hok' HR2 k34
      rintro e w9 ⟨rfl, hb⟩
      have HUP := Lib.hid (below_then HQ2.out.up hb (Nat.le_refl _))
      clear hb
      go_wp2_with fail
      exact ⟨rfl, scanIs_wrong rfl HUP.out⟩
    refine (need0_yes _ ok3 w.heap.size s a c w2 en3 (ok3_any c w2) HQ2.out.sb hn hok (by omega)).mono ?_
    rintro e w3 ⟨rfl, hsb, hg⟩
    have HQ3 := Lib.hid (HQ2.out.go hsb hg)
    clear hsb hg HQ2
    by_cases h92 : c.toNat = 92
    case neg =>
      have hp : plain c.toNat = true := by
        simp only [ok3, Bool.or_eq_true, beq_iff_eq] at hok
        rcases hok with (h | h) | h
        · exact h
        · exact absurd h n34
        · exact absurd h h92
      have k92 : ((c.toNat : Int) != 92) = true := by rw [bne_iff_ne]; omega
      have hr := HR2.out
      rw [st_plain hn hp] at hr
      simp only [List.drop_drop] at hr
      have HRX := Lib.hid hr
      clear hr HR2 hok hp h92 n34 h34
      go_wp2_with (refine wpList_append_own _ rfl (.tmp 49) (.tmp 51) 42 rfl (w.heap.size + 2) TU8 i0 (.int .u8 0) 1 1 Try.underlying42 HI.out.1 HI.out.2.1 HI.out.2.2.1 HI.out.2.2.2 rfl (by decide) _ _ _ rfl (HQ3.out.out.alloc _) ⟨w3.heap.size, 0, none⟩ 1 1 [.int .u8 c.toNat] rfl rfl (World.news_of_block (heap_alloc_new w3 _)) (by intro u hu; simp at hu; subst hu; rfl) (by unfold maxLen; omega) (by omega) (by have := HQ3.out.sz; simp; omega) ?_; intro v9' w9 hown9 hgrow9 _)
      have HQ9 := Lib.hid ((HQ3.out.on (below_new w3 _)).appOut (c := c) hown9 hgrow9)
      clear hown9 hgrow9
      go_wp2_with fail
      go_roundg k
      case measure => omega
      case rel => exact ⟨a + 1, out ++ [c], pl ++ [a], by omega, by omega, by simp; omega, by simp; omega, HRX, HQ9⟩
    obtain rfl : c = 92 := u8_eq h92
    clear h92 n34 h34 k34 hok
    rcases h1 : s.data.toList[a + 1]? with _ | x
    · have hr := HR2.out
      rw [st_1n hn h1] at hr
      try simp only [] at hr
      subst hr
      go_wp2_with fail
      refine (need_end _ _ w.heap.size s (a + 1) w3 HQ3.out.sb h1 (by omega)).mono ?_
      clear HR2
      rintro e w9 ⟨rfl, hb⟩
      have HUP := Lib.hid (below_then HQ3.out.up hb (Nat.le_refl _))
      clear hb
      go_wp2_with fail
      exact ⟨rfl, scanIs_wrong rfl HUP.out⟩
    obtain ⟨hla1, -⟩ := byte_at s (a + 1) x h1
    by_cases hok4 : ok4 x.toNat = true
    case neg =>
      have hok4' : ok4 x.toNat = false := by simpa using hok4
      have hr := HR2.out
      rw [st_1 hn h1 hok4'] at hr
      try simp only [] at hr
      subst hr
      go_wp2_with fail
      refine (need0_no _ ok4 w.heap.size s (a + 1) x w3 en4 (ok4_any x w3) HQ3.out.sb h1 hok4' (by omega)).mono ?_
      clear HR2 hok4 hok4'
      rintro e w9 ⟨rfl, hb⟩
      have HUP := Lib.hid (below_then HQ3.out.up hb (Nat.le_refl _))
      clear hb
      go_wp2_with fail
      exact ⟨rfl, scanIs_wrong rfl HUP.out⟩
    go_wp2_with fail
    refine (need0_yes _ ok4 w.heap.size s (a + 1) x w3 en4 (ok4_any x w3) HQ3.out.sb h1 hok4 (by omega)).mono ?_
    rintro e w4 ⟨rfl, hsb, hg⟩
    have HQ4 := Lib.hid (HQ3.out.go hsb hg)
    clear hsb hg HQ3
    have hx : (x.toNat = 34 ∨ x.toNat = 92) ∨ x = 110 ∨ x = 114 ∨ x = 116 ∨ x = 120 := by
      simp only [ok4, Bool.or_eq_true, beq_iff_eq] at hok4
      rcases hok4 with ((((h | h) | h) | h) | h) | h
      · exact .inl (.inl h)
      · exact .inl (.inr h)
      · exact .inr (.inl (u8_eq h))
      · exact .inr (.inr (.inl (u8_eq h)))
      · exact .inr (.inr (.inr (.inl (u8_eq h))))
      · exact .inr (.inr (.inr (.inr (u8_eq h))))
    clear hok4
    have hr := HR2.out
    rcases hx with hx | rfl | rfl | rfl | rfl
    · rw [st_self hn h1 hx] at hr
      simp only [List.drop_drop] at hr
      have HRX := Lib.hid hr
      have k1 : ((x.toNat : Int) == 110) = false := by rw [beq_eq_false_iff_ne]; omega
      have k2 : ((x.toNat : Int) == 114) = false := by rw [beq_eq_false_iff_ne]; omega
      have k3 : ((x.toNat : Int) == 116) = false := by rw [beq_eq_false_iff_ne]; omega
      have k4 : ((x.toNat : Int) == 120) = false := by rw [beq_eq_false_iff_ne]; omega
      clear hr HR2 hx
      go_wp2_with (refine wpList_append_own _ rfl (.tmp 77) (.tmp 79) 42 rfl (w.heap.size + 2) TU8 i0 (.int .u8 0) 1 1 Try.underlying42 HI.out.1 HI.out.2.1 HI.out.2.2.1 HI.out.2.2.2 rfl (by decide) _ _ _ rfl (HQ4.out.out.alloc _) ⟨w4.heap.size, 0, none⟩ 1 1 [.int .u8 x.toNat] rfl rfl (World.news_of_block (heap_alloc_new w4 _)) (by intro u hu; simp at hu; subst hu; rfl) (by unfold maxLen; omega) (by omega) (by have := HQ4.out.sz; simp; omega) ?_; intro v9' w9 hown9 hgrow9 _)
      have HQ9 := Lib.hid ((HQ4.out.on (below_new w4 _)).appOut (c := x) hown9 hgrow9)
      clear hown9 hgrow9
      go_wp2_with fail
      go_roundg k
      case measure => omega
      case rel => exact ⟨a + 2, out ++ [x], pl ++ [a], by omega, by omega, by simp; omega, by simp; omega, HRX, HQ9⟩
    · rw [st_n hn h1] at hr
      simp only [List.drop_drop] at hr
      have HRX := Lib.hid hr
      clear hr HR2
      go_wp2_with (refine wpList_append_own _ rfl (.tmp 77) (.tmp 79) 42 rfl (w.heap.size + 2) TU8 i0 (.int .u8 0) 1 1 Try.underlying42 HI.out.1 HI.out.2.1 HI.out.2.2.1 HI.out.2.2.2 rfl (by decide) _ _ _ rfl (HQ4.out.out.alloc _) ⟨w4.heap.size, 0, none⟩ 1 1 [.int .u8 10] rfl rfl (World.news_of_block (heap_alloc_new w4 _)) (by intro u hu; simp at hu; subst hu; rfl) (by unfold maxLen; omega) (by omega) (by have := HQ4.out.sz; simp; omega) ?_; intro v9' w9 hown9 hgrow9 _)
      have HQ9 := Lib.hid ((HQ4.out.on (below_new w4 _)).appOut (c := 10) hown9 hgrow9)
      clear hown9 hgrow9
      go_wp2_with fail
      go_roundg k
      case measure => omega
      case rel => exact ⟨a + 2, out ++ [10], pl ++ [a], by omega, by omega, by simp; omega, by simp; omega, HRX, HQ9⟩
    · rw [st_r hn h1] at hr
      simp only [List.drop_drop] at hr
      have HRX := Lib.hid hr
      clear hr HR2
      go_wp2_with (refine wpList_append_own _ rfl (.tmp 77) (.tmp 79) 42 rfl (w.heap.size + 2) TU8 i0 (.int .u8 0) 1 1 Try.underlying42 HI.out.1 HI.out.2.1 HI.out.2.2.1 HI.out.2.2.2 rfl (by decide) _ _ _ rfl (HQ4.out.out.alloc _) ⟨w4.heap.size, 0, none⟩ 1 1 [.int .u8 13] rfl rfl (World.news_of_block (heap_alloc_new w4 _)) (by intro u hu; simp at hu; subst hu; rfl) (by unfold maxLen; omega) (by omega) (by have := HQ4.out.sz; simp; omega) ?_; intro v9' w9 hown9 hgrow9 _)
      have HQ9 := Lib.hid ((HQ4.out.on (below_new w4 _)).appOut (c := 13) hown9 hgrow9)
      clear hown9 hgrow9
      go_wp2_with fail
      go_roundg k
      case measure => omega
      case rel => exact ⟨a + 2, out ++ [13], pl ++ [a], by omega, by omega, by simp; omega, by simp; omega, HRX, HQ9⟩
    · rw [st_t hn h1] at hr
      simp only [List.drop_drop] at hr
      have HRX := Lib.hid hr
      clear hr HR2
      go_wp2_with (refine wpList_append_own _ rfl (.tmp 77) (.tmp 79) 42 rfl (w.heap.size + 2) TU8 i0 (.int .u8 0) 1 1 Try.underlying42 HI.out.1 HI.out.2.1 HI.out.2.2.1 HI.out.2.2.2 rfl (by decide) _ _ _ rfl (HQ4.out.out.alloc _) ⟨w4.heap.size, 0, none⟩ 1 1 [.int .u8 9] rfl rfl (World.news_of_block (heap_alloc_new w4 _)) (by intro u hu; simp at hu; subst hu; rfl) (by unfold maxLen; omega) (by omega) (by have := HQ4.out.sz; simp; omega) ?_; intro v9' w9 hown9 hgrow9 _)
      have HQ9 := Lib.hid ((HQ4.out.on (below_new w4 _)).appOut (c := 9) hown9 hgrow9)
      clear hown9 hgrow9
      go_wp2_with fail
      go_roundg k
      case measure => omega
      case rel => exact ⟨a + 2, out ++ [9], pl ++ [a], by omega, by omega, by simp; omega, by simp; omega, HRX, HQ9⟩
    · clear hr
      go_wp2_with fail
      rcases h2 : s.data.toList[a + 1 + 1]? with _ | y
      · have hr := HR2.out
        rw [st_2n hn h1 h2] at hr
        try simp only [] at hr
        subst hr
        refine (need_end _ _ w.heap.size s (a + 1 + 1) w4 HQ4.out.sb h2 (by omega)).mono ?_
        clear HR2
        rintro e w9 ⟨rfl, hb⟩
        have HUP := Lib.hid (below_then HQ4.out.up hb (Nat.le_refl _))
        clear hb
        go_wp2_with fail
        exact ⟨rfl, scanIs_wrong rfl HUP.out⟩
      obtain ⟨hla2, -⟩ := byte_at s (a + 1 + 1) y h2
      by_cases hok5 : okhi y.toNat = true
      case neg =>
        have hok5' : okhi y.toNat = false := by simpa using hok5
        have hr := HR2.out
        rw [st_2 hn h1 h2 hok5'] at hr
        try simp only [] at hr
        subst hr
        refine (need0_no _ okhi w.heap.size s (a + 1 + 1) y w4 en5 (ok5_any y w4) HQ4.out.sb h2 hok5' (by omega)).mono ?_
        clear HR2 hok5 hok5'
        rintro e w9 ⟨rfl, hb⟩
        have HUP := Lib.hid (below_then HQ4.out.up hb (Nat.le_refl _))
        clear hb
        go_wp2_with fail
        exact ⟨rfl, scanIs_wrong rfl HUP.out⟩
      refine (need0_yes _ okhi w.heap.size s (a + 1 + 1) y w4 en5 (ok5_any y w4) HQ4.out.sb h2 hok5 (by omega)).mono ?_
      rintro e w5 ⟨rfl, hsb, hg⟩
      have HQ5 := Lib.hid (HQ4.out.go hsb hg)
      have hy := okhi_lt hok5
      have HY := Lib.hid (index_digits y)
      have HOK5 := Lib.hid hok5
      clear hsb hg HQ4 hok5
      go_wp2_with fail
      refine (Try.strings_IndexByte _ y.toNat w5).mono ?_
      rintro e w6 ⟨rfl, rfl⟩
      rw [toU8]
      have hiy : Lib.indexByte (ByteArray.mk #[48, 49, 50, 51, 52, 53, 54, 55, 56, 57, 97, 98, 99, 100, 101, 102]).data.toList y = (undig y.toNat : Int) := by have := HY.out; rwa [if_pos hy] at this
      rw [hiy]
      clear hiy HY
      obtain ⟨hv, hhv⟩ : ∃ hv, undig y.toNat = hv := ⟨_, rfl⟩
      have HHV := Lib.hid hhv
      rw [hhv] at hy ⊢
      clear hhv
      have hQ7 := HQ5.out.on (below_new w6 (.cells #[.int .i64 hv] TI))
      have hp7 : (w6.alloc (.cells #[.int .i64 hv] TI)).cell? ⟨w6.heap.size, 0, none⟩ = some (.int .i64 hv) := by rw [cell_of_row _ _ 0 _ _ _ (heap_alloc_new w6 _)]; rfl
      have hp8 : (w6.alloc (.cells #[.int .i64 hv] TI)).heap[w6.heap.size]? = some (.cells #[.int .i64 hv] TI (0, 0)) := heap_alloc_new w6 _
      have HQ7 := Lib.hid hQ7; have HP7 := Lib.hid hp7; have HP8 := Lib.hid hp8; have HZ7 : Hid (w.heap.size + 2 ≤ w6.heap.size) := Lib.hid HQ5.out.sz
      clear hQ7 hp7 hp8 HQ5
      go_wp2_with fail
      change Calls _ _ _ (w6.alloc (.cells #[.int .i64 hv] TI)) _
      obtain ⟨p, hp⟩ : ∃ p, w6.heap.size = p := ⟨_, rfl⟩
      rw [hp] at HP7 HP8 HZ7 ⊢
      generalize w6.alloc (.cells #[.int .i64 hv] TI) = W7 at *
      clear hp
      rcases h3 : s.data.toList[a + 1 + 1 + 1]? with _ | z
      · have hr := HR2.out
        rw [st_3n hn h1 h2 HOK5.out h3] at hr
        try simp only [] at hr
        subst hr
        refine (need_end _ _ w.heap.size s (a + 1 + 1 + 1) W7 HQ7.out.sb h3 (by omega)).mono ?_
        clear HR2
        rintro e w9 ⟨rfl, hb⟩
        have HUP := Lib.hid (below_then HQ7.out.up hb (Nat.le_refl _))
        clear hb
        go_wp2_with fail
        exact ⟨rfl, scanIs_wrong rfl HUP.out⟩
      obtain ⟨hla3, -⟩ := byte_at s (a + 1 + 1 + 1) z h3
      have hG := ok6_any p hv z W7 HP7.out hy
      by_cases hok6 : oklo hv z.toNat = true
      case neg =>
        have hok6' : oklo hv z.toNat = false := by simpa using hok6
        have hr := HR2.out
        rw [st_3 hn h1 h2 HOK5.out h3 (by rw [HHV.out]; exact hok6')] at hr
        try simp only [] at hr
        subst hr
        refine (need1_no _ _ (oklo hv) w.heap.size s (a + 1 + 1 + 1) z W7 en6 hG HQ7.out.sb h3 hok6' (by omega)).mono ?_
        clear HR2 hok6 hok6' hG
        rintro e w9 ⟨rfl, hb⟩
        have HUP := Lib.hid (below_then HQ7.out.up hb (Nat.le_refl _))
        clear hb
        go_wp2_with fail
        exact ⟨rfl, scanIs_wrong rfl HUP.out⟩
      refine (need1_yes _ _ (oklo hv) w.heap.size s (a + 1 + 1 + 1) z W7 en6 hG HQ7.out.sb h3 hok6 (by omega)).mono ?_
      rintro e w8 ⟨rfl, hsb, hg⟩
      have HQ8 := Lib.hid (HQ7.out.go hsb hg)
      have hp8 : w8.cell? ⟨p, 0, none⟩ = some (.int .i64 hv) := by rw [cell_of_row _ _ 0 _ _ _ ((hg.block _ (lt_of_block HP8.out) (by have := HZ7.out; simp; omega)).trans HP8.out)]; rfl
      have hu := oklo_lt hok6
      have HU := Lib.hid (index_digits z)
      have hr := HR2.out
      rw [st_4 hn h1 h2 HOK5.out h3 (by rw [HHV.out]; exact hok6), HHV.out] at hr
      simp only [List.drop_drop] at hr
      have hor := or_hex hv (undig z.toNat) hy hu
      have hx : 16 * hv + undig z.toNat < 256 := by omega
      have hcn : (UInt8.ofNat (16 * hv + undig z.toNat)).toNat = 16 * hv + undig z.toNat := toNat_ofNat hx
      have HCN := Lib.hid hcn
      have HRX := Lib.hid hr
      have hind : Lib.indexByte (ByteArray.mk #[48, 49, 50, 51, 52, 53, 54, 55, 56, 57, 97, 98, 99, 100, 101, 102]).data.toList z = (undig z.toNat : Int) := by have := HU.out; rwa [if_pos hu] at this
      clear hsb hg HQ7 hG hr HR2 hok6 HU hcn
      have hcall : ∀ w, Calls Try.prog 63 #[.string ⟨#[48, 49, 50, 51, 52, 53, 54, 55, 56, 57, 97, 98, 99, 100, 101, 102]⟩, .int .u8 z.toNat] w fun e w' => e = .returned (.int .i64 (undig z.toNat : Nat)) ∧ w' = w := fun w =>
        (Try.strings_IndexByte _ z.toNat w).mono fun e w' h => ⟨by rw [h.1, toU8, hind], h.2⟩
      have HCALL := Lib.hid hcall
      clear hcall hind
      generalize 16 * hv + undig z.toNat = xx at *
      generalize undig z.toNat = u at *
      have hx0 : (0 : Int) ≤ xx := by omega
      have hx2 : (xx : Int) < 256 := by omega
      have hy2 : (hv : Int) < 16 := by omega
      have hu2 : (u : Int) < 16 := by omega
      clear hx hu hy
      go_wp2_with fail
      go_quiet ((refine Calls.quiet_of_same (HCALL.out _)))
      have HQA := Lib.hid (HQ8.out.on (below_drew w8.heap.size w8 nq))
      clear HQ8 hor hp8
      generalize w8.drewN nq = w8' at *
      go_wp2_with (refine wpList_append_own _ rfl (.tmp 77) (.tmp 79) 42 rfl (w.heap.size + 2) TU8 i0 (.int .u8 0) 1 1 Try.underlying42 HI.out.1 HI.out.2.1 HI.out.2.2.1 HI.out.2.2.2 rfl (by decide) _ _ _ rfl (HQA.out.out.alloc _) ⟨w8'.heap.size, 0, none⟩ 1 1 [.int .u8 xx] rfl rfl (World.news_of_block (heap_alloc_new w8' _)) (by intro u hu; simp at hu; subst hu; rfl) (by unfold maxLen; omega) (by omega) (by have := HQA.out.sz; simp; omega) ?_; intro v9' w9 hown9 hgrow9 _)
      have HQ9 := Lib.hid ((HQA.out.on (below_new w8' _)).appOut (c := UInt8.ofNat xx) (by rw [HCN.out]; exact hown9) hgrow9)
      clear hown9 hgrow9
      go_wp2_with fail
      go_roundg k
      case measure => omega
      case rel => exact ⟨a + 4, out ++ [UInt8.ofNat xx], pl ++ [a], by omega, by omega, by simp; omega, by simp; omega, HRX, HQ9⟩
end Go.Proofs.Ytlfhjmdbkifciaa
