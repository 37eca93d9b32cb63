/- The document's class of bytes. -/
import Derived.Test.YtfhggnbnbopkkaaDoorPatRefLeaf
namespace Go.Proofs.YtfhggnbnbopkkaaDoor
open Go.RowKit PM

abbrev TIn : TypeId := 126
/-- which bytes were named -/
def InB (w : World) (b : Nat) (p : Nat → Bool) : Prop := ∃ cs, w.heap[b]? = some (.cells cs TIn (0, 0)) ∧ cs.size = 256 ∧ ∀ i, i < 256 → cs[i]? = some (.bool (p i))
theorem InB.lt {w : World} {b : Nat} {p : Nat → Bool} (h : InB w b p) : b < w.heap.size := by obtain ⟨cs, h1, _⟩ := h; exact lt_of_block h1
theorem InB.cell {w : World} {b : Nat} {p : Nat → Bool} (h : InB w b p) {i : Nat} (hi : i < 256) : w.cell? ⟨b, i, none⟩ = some (.bool (p i)) := by
  obtain ⟨cs, h1, _, h2⟩ := h
  rw [cell_of_row w b _ _ _ _ h1]; exact h2 i hi
theorem InB.fz {w : World} {b : Nat} {p : Nat → Bool} (h : InB w b p) (i : Nat) : w.frozen? ⟨b, i, none⟩ = false := by obtain ⟨cs, h1, _⟩ := h; exact frozen_of_row w b i _ _ h1
theorem InB.same {w w' : World} {b : Nat} {p : Nat → Bool} (h : InB w b p) (e : w'.heap[b]? = w.heap[b]?) : InB w' b p := by obtain ⟨cs, h1, h2⟩ := h; exact ⟨cs, e.trans h1, h2⟩
theorem InB.put {w : World} {b : Nat} {p : Nat → Bool} (h : InB w b p) {i : Nat} (hi : i < 256) : InB (w.setCell ⟨b, i, none⟩ (.bool true)) b (addK p i) := by
  obtain ⟨cs, h1, h2, h3⟩ := h
  have := heap_setCell_same w b i _ _ (.bool true) h1
  refine ⟨_, this, by simpa using h2, fun j hj => ?_⟩
  rw [Array.getElem?_setIfInBounds]
  by_cases hij : i = j
  · subst hij; simp [h2, hi, addK]
  · have : (j == i) = false := by rw [beq_eq_false_iff_ne]; omega
    rw [if_neg hij, h3 j hj]; simp [addK, this]

structure CR (w wr : World) (p q : Nat → Bool) : Prop where
  res : wr.heap[w.heap.size]? = some (.cells zN TN (0, 0))
  set : NodB wr (w.heap.size + 1) q
  arr : InB wr (w.heap.size + 2) p
  up : Below w.heap.size w wr
theorem CR.on {w wr w' : World} {p q : Nat → Bool} (h : CR w wr p q) (hb : Below wr.heap.size wr w') : CR w w' p q :=
  ⟨(hb.block _ (lt_of_block h.res)).trans h.res, h.set.on hb, h.arr.same (hb.block _ h.arr.lt), below_then h.up hb (Nat.le_refl _)⟩
theorem CR.drew {w wr : World} {p q : Nat → Bool} (h : CR w wr p q) : CR w wr.drew p q := ⟨h.res, h.set, h.arr.same rfl, h.up.drew⟩
theorem CR.putIn {w wr : World} {p q : Nat → Bool} (h : CR w wr p q) {i : Nat} (hi : i < 256) : CR w (wr.setCell ⟨w.heap.size + 2, i, none⟩ (.bool true)) (addK p i) q :=
  ⟨(Below.heap_setCell _ _ _ _ (by simp)).trans h.res, (Below.heap_setCell _ _ _ _ (by simp)).trans h.set, h.arr.put hi, h.up.setCell (by simp) _⟩
theorem CR.put {w wr : World} {p q q' : Nat → Bool} (h : CR w wr p q) {i : Nat} (hi : i < 4) (n : Int) (hn : n = word q' i) (ho : ∀ j, j ≠ i → word q j = word q' j) : CR w (wr.setCell ⟨w.heap.size + 1, 1 + i, none⟩ (.int .u64 n)) p q' :=
  ⟨(Below.heap_setCell _ _ _ _ (by simp)).trans h.res, h.set.put hi n hn ho, h.arr.same (Below.heap_setCell _ _ _ _ (by simp)), h.up.setCell (by simp) _⟩

def classW (w : World) (Z : Array Value) : World := ((w.alloc (.cells zN TN)).alloc (.cells #[.int .i64 2, .int .u64 0, .int .u64 0, .int .u64 0, .int .u64 0, .slice none 0 0] TN)).alloc (.cells Z TIn)
theorem zeros_in : Tryd.zeroCells126 = Array.replicate 256 (.bool false) := by kernel_rfl
theorem classW_facts (w : World) : CR w (classW w Tryd.zeroCells126) noSet noSet := by
  have b1 := below_new w (.cells zN TN)
  have b2 := below_new (w.alloc (.cells zN TN)) (.cells #[.int .i64 2, .int .u64 0, .int .u64 0, .int .u64 0, .int .u64 0, .slice none 0 0] TN)
  have b3 := below_new ((w.alloc (.cells zN TN)).alloc (.cells #[.int .i64 2, .int .u64 0, .int .u64 0, .int .u64 0, .int .u64 0, .slice none 0 0] TN)) (.cells Tryd.zeroCells126 TIn)
  have h1 := heap_alloc_new w (.cells zN TN)
  have h2 := heap_alloc_new (w.alloc (.cells zN TN)) (.cells #[.int .i64 2, .int .u64 0, .int .u64 0, .int .u64 0, .int .u64 0, .slice none 0 0] TN)
  have h3 := heap_alloc_new ((w.alloc (.cells zN TN)).alloc (.cells #[.int .i64 2, .int .u64 0, .int .u64 0, .int .u64 0, .int .u64 0, .slice none 0 0] TN)) (.cells Tryd.zeroCells126 TIn)
  simp only [World.size_alloc] at b2 b3 h2 h3
  refine ⟨(b3.block _ (by omega)).trans ((b2.block _ (by omega)).trans h1), ?_, ⟨_, h3, by rw [zeros_in]; simp, fun i hi => by rw [zeros_in]; simp [hi, noSet]⟩, b1.trans ((b2.mono (by omega)).trans (b3.mono (by omega)))⟩
  unfold NodB; rw [word_none, word_none, word_none, word_none]
  exact (b3.block _ (by omega)).trans h2

/-- the bytes below one whose mark is not that -/
def sofar (p : Nat → Bool) (bn : Bool) (x : Nat) : Nat → Bool := fun k => decide (k < x) && (p k != bn)
theorem sofar_yes {p : Nat → Bool} {bn : Bool} {x : Nat} (h : (p x != bn) = true) : addK (sofar p bn x) x = sofar p bn (x + 1) := by
  funext k
  simp only [addK, sofar]
  by_cases h1 : k = x
  · subst h1; simp [h]
  · have h2 : (k == x) = false := by rw [beq_eq_false_iff_ne]; exact h1
    have h3 : decide (k < x + 1) = decide (k < x) := by rw [decide_eq_decide]; omega
    rw [h2, h3]; simp
theorem sofar_no {p : Nat → Bool} {bn : Bool} {x : Nat} (h : (p x != bn) = false) : sofar p bn x = sofar p bn (x + 1) := by
  funext k
  simp only [sofar]
  by_cases h1 : k = x
  · subst h1; simp [h]
  · have h3 : decide (k < x + 1) = decide (k < x) := by rw [decide_eq_decide]; omega
    rw [h3]
theorem sofar_zero (p : Nat → Bool) (bn : Bool) : sofar p bn 0 = noSet := by funext k; simp [sofar, noSet]

theorem cls_three (s : List UInt8) (a : Nat) : (s[a]? = some 94 → ∃ r, clsL (s.length + 1) s (a + 1) true noSet = r ∧ cls s a = fin r true) ∧ (¬ s[a]? = some 94 → ∃ r, clsL (s.length + 1) s a true noSet = r ∧ cls s a = fin r false) := by
  rcases class_three s a with ⟨h1, r, h2, h3⟩ | ⟨c, h1, h2, r, h3, h4⟩ | ⟨c, h1, h2, r, h3, h4⟩
  · exact ⟨(fun h => by rw [h1] at h; cases h), fun _ => ⟨r, h2, h3⟩⟩
  · have : c = 94 := u8_eq (by simp only [beq_iff_eq] at h2; have : c.toNat = 94 := by omega
                               rw [this]; rfl)
    exact ⟨fun _ => ⟨r, h3, h4⟩, fun h => absurd (by rw [h1, this]) h⟩
  · refine ⟨fun h => ?_, fun _ => ⟨r, h3, h4⟩⟩
    rw [h1] at h; cases h; exact absurd h2 (by decide)

set_option maxRecDepth 100000 in
set_option maxHeartbeats 32000000 in
theorem rclass_any (s : ByteArray) (a : Nat) (w : World) (ha : a ≤ s.size) (hs : s.size ≤ 100000) :
    Calls Tryd.prog 71 #[.string s, .int .i64 a] w (RefIs w (cls s.data.toList a)) := by
  have hai : (a : Int) ≤ 100000 := by omega
  have ha0 : (0 : Int) ≤ a := by omega
  have H0 := Lib.hid (classW_facts w)
  obtain ⟨RR, hRR⟩ : ∃ RR, cls s.data.toList a = RR := ⟨_, rfl⟩
  obtain ⟨hy, hn⟩ := cls_three s.data.toList a
  rw [hRR] at hy hn ⊢
  clear hRR
  rcases at_three s a 94 94 rfl ha with ⟨h1, h2, h3⟩ | ⟨hl, h1, h2, h3⟩ | ⟨hl, h1, h2, h3⟩
  case' inl =>
    have hal : (s.size : Int) ≤ a := by omega
    obtain ⟨r, hr, hE⟩ := hn h3
    obtain ⟨bn, hbn⟩ : ∃ bn, bn = false := ⟨_, rfl⟩
    rw [← hbn] at hE
    clear h1 h2
  case' inr.inl =>
    have hal : (a : Int) < s.size := by omega
    have h4 : ((s[a].toNat : Int) == 94) = true := by simpa using h2
    obtain ⟨r, hr, hE⟩ := hy h3
    obtain ⟨bn, hbn⟩ : ∃ bn, bn = true := ⟨_, rfl⟩
    rw [← hbn] at hE
    clear h1 h2
  case' inr.inr =>
    have hal : (a : Int) < s.size := by omega
    have h4 : ((s[a].toNat : Int) == 94) = false := by simpa using h2
    obtain ⟨r, hr, hE⟩ := hn h3
    obtain ⟨bn, hbn⟩ : ∃ bn, bn = false := ⟨_, rfl⟩
    rw [← hbn] at hE
    clear h1 h2
  all_goals
    have HR := Lib.hid hr; have HE := Lib.hid hE; have HBN := Lib.hid hbn
    clear hr hE hbn h3 hy hn
    go_enter Tryd.func71, Tryd.ntmps71
    go_wp2_with fail
    change Code.wp _ _ _ _ (classW w Tryd.zeroCells126)
    generalize classW w Tryd.zeroCells126 = W0 at *
    go_loopg [1, 10] (s.size + 1) (fun k v1 v10 wr => ∃ (b : Nat) (first : Bool) (p : Nat → Bool), v1 = .int .i64 b ∧ v10 = .bool first ∧ b ≤ s.size ∧ s.size - b < k ∧ Hid (clsL k s.data.toList b first p = r) ∧ Hid (CR w wr p noSet))
    case atStart => first
      | exact ⟨a, true, noSet, rfl, rfl, ha, by omega, HR, H0⟩
      | exact ⟨a + 1, true, noSet, rfl, rfl, by omega, by omega, HR, H0⟩
  all_goals
    clear H0 HR
    try clear h4
    try clear hl
    try clear hal
    try clear ha0
    try clear hai
    try clear ha
    obtain ⟨b, first, p, rfl, rfl, hbs, hbk, HR, HC⟩ := hrel
    obtain ⟨k, rfl⟩ : ∃ k, gk = k + 1 := ⟨gk - 1, by omega⟩
    have hbi : (b : Int) ≤ 100000 := by omega
    have hb0 : (0 : Int) ≤ b := by omega
    have hr := HR.out
    simp only [clsL] at hr
    have HR1 := Lib.hid hr
    clear hr HR
    by_cases hstop : s.data.toList[b]? = some 93 ∧ first = false
    · obtain ⟨hs1, rfl⟩ := hstop
      have hr := HR1.out
      rw [if_pos ⟨hs1, rfl⟩] at hr
      subst hr
      obtain ⟨hl2, hc⟩ := byte_at s b 93 hs1
      have hl3 : (b : Int) < s.size := by omega
      have h5 : ((b : Int) == (s.size : Int)) = false := by rw [beq_eq_false_iff_ne]; omega
      have h6 : ((s[b].toNat : Int) != 93) = false := by rw [hc]; rfl
      clear hs1 HR1 hc
      go_wp2_with fail
      clear h5 h6
      go_loopg [16] 257 (fun k v16 wr => ∃ x : Nat, v16 = .int .i64 x ∧ x ≤ 256 ∧ 256 - x < k ∧ Hid (CR w wr p (sofar p bn x)))
      case atStart => exact ⟨0, rfl, by omega, by omega, Lib.hid (by rw [sofar_zero]; exact HC.out)⟩
      case round =>
        clear HC
        obtain ⟨x, rfl, hx, hxk, HX⟩ := hrel
        by_cases hxl : x < 256
        · have hx256 : (x : Int) < 256 := by omega
          have e0 : (0 : Int) ≤ x := by omega
          have ci := HX.out.arr.cell hxl
          by_cases hpx : (p x != bn) = true
          · have e1 : (0 : Int) ≤ (x : Int) / 64 := by omega
            have e2 : (x : Int) / 64 < 4 := by omega
            have e3 : (0 : Int) ≤ (x : Int) % 64 := by omega
            have e4 : (x : Int) % 64 < 64 := by omega
            have cx := HX.out.set.cell (i := x / 64) (by omega)
            have fx := HX.out.set.fz (1 + x / 64)
            have ho := or_word (sofar p bn x) (x / 64) x rfl
            have hpx' := hpx
            rw [HBN.out] at hpx'
            first | (have hv : p x = false := by simpa using hpx') | (have hv : p x = true := by simpa using hpx')
            have HPX := Lib.hid hpx
            clear hpx hpx'
            go_wp2_with fail
            clear hv
            go_region
            all_goals
              go_wp2_with fail
              go_roundg (gk - 1)
              case measure => omega
              case rel => exact ⟨x + 1, by go_num, by omega, by omega, Lib.hid (by rw [← sofar_yes HPX.out]; exact (HX.out.put (i := x / 64) (by omega) _ rfl (fun j hj => word_addK_ne _ _ _ (Ne.symm hj))).drew)⟩
          · have hpx2 : (p x != bn) = false := by simpa using hpx
            have hpx' := hpx2
            rw [HBN.out] at hpx'
            first | (have hv : p x = false := by simpa using hpx') | (have hv : p x = true := by simpa using hpx')
            have HPX := Lib.hid hpx2
            clear hpx hpx' hpx2
            go_wp2_with fail
            clear hv
            go_roundg (gk - 1)
            case measure => omega
            case rel => exact ⟨x + 1, by go_num, by omega, by omega, Lib.hid (by rw [← sofar_no HPX.out]; exact HX.out)⟩
        · obtain rfl : x = 256 := by omega
          obtain ⟨q, hq⟩ : ∃ q : Nat → Bool, q = fun k => p k != bn := ⟨_, rfl⟩
          have HQ := Lib.hid hq
          have HF : Hid (CR w wr p q) := Lib.hid ⟨HX.out.res, HX.out.set.eqv (fun k hk => by rw [hq]; simp [sofar, hk]), HX.out.arr, HX.out.up⟩
          clear HX hxl hx hq
          go_wp2_with (first | (refine wpList_load_row rfl TN (.tmp 7) rfl (w.heap.size + 1) rfl TN _ (0, 0) _ HF.out.set Tryd.underlying66 rfl (by kernel_rfl) ?_) | (refine wpList_store_row rfl TN (.tmp 4) (.tmp 116) rfl w.heap.size _ rfl rfl TN zN HF.out.res (by kernel_rfl) rfl (by simp [Value.oneCell']) ?_))
          exact bodyPost_ret (v := .tuple #[.agg (nodeC (.mk 2 q []) (.slice none 0 0)).toArray, .int .i64 (b + 1), .bool true]) (results_rtt rfl _ _ w.heap.size _ _ _ rfl rfl rfl (load_node _ _ _ (setRow_heap _ _ _ _ _ _ HF.out.res) rfl)) rfl (by rw [HE.out]; simp only [fin]; rw [← HQ.out]; exact refIs_ok (t := .mk 2 q []) (n := b + 1) rfl (IsT.nil _ _) (HF.out.up.trans (below_rowB _ _ _ _ (Nat.le_refl _))))
    have hgo : first = true ∨ (first = false ∧ ((s.size : Int) ≤ b ∧ ((b : Int) == (s.size : Int)) = true ∨ ∃ h : b < s.size, ((b : Int) == (s.size : Int)) = false ∧ ((s[b].toNat : Int) != 93) = true)) := by
      cases first
      · refine .inr ⟨rfl, ?_⟩
        rcases at_three s b 93 93 rfl hbs with ⟨g1, g2, g3⟩ | ⟨gl, g1, g2, g3⟩ | ⟨gl, g1, g2, g3⟩
        · exact .inl ⟨by omega, g2⟩
        · exact absurd ⟨g3, rfl⟩ hstop
        · exact .inr ⟨gl, g1, g2⟩
      · exact .inl rfl
    have hr := HR1.out
    rw [if_neg hstop] at hr
    have HR2 := Lib.hid hr
    clear hr HR1 hstop
    rcases hgo with rfl | ⟨rfl, ⟨g1, g2⟩ | ⟨gl, g1, g2⟩⟩
    case' inr.inr => have gl2 : (b : Int) < s.size := by omega
    all_goals
      go_wp2_with fail
      try clear g2
      try clear g1
      refine (rmember_any s b _ hbs (by omega)).mono ?_
      rintro e w3 ⟨rfl, rfl⟩
      have hr := HR2.out
      rcases hmem : member s.data.toList b with ⟨lo, n⟩ | ⟨k'⟩
      case bad =>
        rw [hmem] at hr
        subst hr
        simp only [rmemV]
        clear HR2 hmem
        go_wp2_with (refine wpList_store_row rfl TN (.tmp 4) (.tmp 53) rfl w.heap.size zN rfl rfl TN zN HC.out.res (by kernel_rfl) rfl (by simp [zN, Value.oneCell']) ?_)
        exact bodyPost_ret (v := .tuple #[.agg zN, .int .i64 k', .bool false]) (results_rtt rfl _ _ w.heap.size _ _ _ rfl rfl rfl (load_node _ _ zN (setRow_heap _ _ _ _ _ _ HC.out.res) rfl)) rfl (by rw [HE.out]; exact refIs_bad rfl (HC.out.up.trans (below_rowB _ _ _ _ (Nat.le_refl _))))
      case ok =>
        rw [hmem] at hr
        have hlo := member_pos hmem
        have HR3 := Lib.hid hr
        simp only [rmemV]
        clear hr hmem HR2
        have hloi : (lo : Int) < 256 := by omega
        have hlo0 : (0 : Int) ≤ lo := by omega
        obtain ⟨hbn, hns, hl256⟩ := hlo
        have hnl : n ≤ s.size := hns
        have hni : (n : Int) ≤ 100000 := by omega
        have hni0 : (0 : Int) ≤ n := by omega
        clear hns
        rcases at_three s n 45 45 rfl hnl with ⟨g1, g2, g3⟩ | ⟨gl5, g1, g2, g3⟩ | ⟨gl5, g1, g2, g3⟩
        case inr.inl =>
          have hr := HR3.out
          simp only [] at hr
          rw [if_pos g3] at hr
          have HR4 := Lib.hid hr
          have gl3 : (n : Int) < s.size := by omega
          have g4 : ((s[n].toNat : Int) == 45) = true := by simpa using g2
          clear hr HR3 g1 g2 g3
          go_wp2_with fail
          clear g4
          refine (rmember_any s (n + 1) _ (by omega) (by omega)).mono ?_
          rintro e w6 ⟨rfl, rfl⟩
          have hr := HR4.out
          rcases hmem : member s.data.toList (n + 1) with ⟨hi, m⟩ | ⟨k'⟩
          case bad =>
            rw [hmem] at hr
            subst hr
            simp only [rmemV]
            clear HR4 hmem
            go_wp2_with (refine wpList_store_row rfl TN (.tmp 4) (.tmp 77) rfl w.heap.size zN rfl rfl TN zN HC.out.res (by kernel_rfl) rfl (by simp [zN, Value.oneCell']) ?_)
            exact bodyPost_ret (v := .tuple #[.agg zN, .int .i64 k', .bool false]) (results_rtt rfl _ _ w.heap.size _ _ _ rfl rfl rfl (load_node _ _ zN (setRow_heap _ _ _ _ _ _ HC.out.res) rfl)) rfl (by rw [HE.out]; exact refIs_bad rfl (HC.out.up.trans (below_rowB _ _ _ _ (Nat.le_refl _))))
          case ok =>
          rw [hmem] at hr
          have hhi := member_pos hmem
          simp only [] at hr
          have HR5 := Lib.hid hr
          simp only [rmemV]
          clear hr hmem HR4
          obtain ⟨hnm, hms, hh256⟩ := hhi
          have hml : m ≤ s.size := hms
          have hhii : (hi : Int) < 256 := by omega
          have hhi0 : (0 : Int) ≤ hi := by omega
          have hmi : (m : Int) ≤ 100000 := by omega
          have hm1 : (1 : Int) ≤ m := by omega
          clear hms
          by_cases hlt : hi < lo
          · have hr := HR5.out
            rw [if_pos hlt] at hr
            subst hr
            have hlt2 : (hi : Int) < lo := by omega
            clear HR5
            go_wp2_with (refine wpList_store_row rfl TN (.tmp 4) (.tmp 83) rfl w.heap.size zN rfl rfl TN zN HC.out.res (by kernel_rfl) rfl (by simp [zN, Value.oneCell']) ?_)
            exact bodyPost_ret (v := .tuple #[.agg zN, .int .i64 (m - 1), .bool false]) (results_rtt rfl _ _ w.heap.size _ _ _ rfl rfl rfl (load_node _ _ zN (setRow_heap _ _ _ _ _ _ HC.out.res) rfl)) rfl (by rw [HE.out]; exact refIs_bad (k := m - 1) (by rw [Int.ofNat_sub (by omega)]; rfl) (HC.out.up.trans (below_rowB _ _ _ _ (Nat.le_refl _))))
          have hr := HR5.out
          rw [if_neg hlt] at hr
          have HR6 := Lib.hid hr
          have hge : (lo : Int) ≤ hi := by omega
          clear hr HR5
          go_wp2_with fail
          go_loopg [15] (hi + 1 - lo) (fun k2 v15 wr => ∃ x : Nat, v15 = .int .i64 x ∧ lo ≤ x ∧ x ≤ hi + 1 ∧ hi + 1 - x ≤ k2 ∧ Hid (CR w wr (upTo p lo x) noSet))
          case atStart => exact ⟨lo, rfl, Nat.le_refl _, by omega, by omega, Lib.hid (by rw [upTo_zero]; exact HC.out)⟩
          case round =>
            clear HC
            obtain ⟨x, rfl, hx1, hx2, hx3, HX⟩ := hrel
            by_cases hxl : x ≤ hi
            · have hx256 : (x : Int) < 256 := by omega
              have e0 : (0 : Int) ≤ x := by omega
              have e5 : (x : Int) ≤ hi := by omega
              have cx := HX.out.arr.cell (i := x) (by omega)
              have fx := HX.out.arr.fz x
              go_wp2_with fail
              go_roundg (gk - 1)
              case measure => omega
              case rel => exact ⟨x + 1, by go_num, by omega, by omega, by omega, Lib.hid (by rw [← upTo_succ p lo x hx1]; exact HX.out.putIn (by omega))⟩
            · obtain rfl : x = hi + 1 := by omega
              have hex : ¬ ((hi : Int) + 1 ≤ hi) := by omega
              have HCY := Lib.hid HX.out
              clear HX hxl
              go_wp2_with fail
              go_roundg k
              case measure => omega
              case rel => exact ⟨m, false, span p lo hi, rfl, rfl, by omega, by omega, HR6, Lib.hid (by rw [← upTo_end]; exact HCY.out)⟩
        all_goals
          have hr := HR3.out
          simp only [] at hr
          rw [if_neg g3] at hr
          have HR4 := Lib.hid hr
          have g4 : True := trivial
          try have gl3 : (n : Int) < s.size := by omega
          try have g4 : ((s[n].toNat : Int) == 45) = false := by simpa using g2
          try have gl3 : (s.size : Int) ≤ n := by omega
          clear hr HR3 g1 g2 g3
          go_wp2_with fail
          clear g4
          go_loopg [15] (lo + 1 - lo) (fun k2 v15 wr => ∃ x : Nat, v15 = .int .i64 x ∧ lo ≤ x ∧ x ≤ lo + 1 ∧ lo + 1 - x ≤ k2 ∧ Hid (CR w wr (upTo p lo x) noSet))
          case atStart => exact ⟨lo, rfl, Nat.le_refl _, by omega, by omega, Lib.hid (by rw [upTo_zero]; exact HC.out)⟩
          case round =>
            clear HC
            obtain ⟨x, rfl, hx1, hx2, hx3, HX⟩ := hrel
            by_cases hxl : x ≤ lo
            · have hx256 : (x : Int) < 256 := by omega
              have e0 : (0 : Int) ≤ x := by omega
              have e5 : (x : Int) ≤ lo := by omega
              have cx := HX.out.arr.cell (i := x) (by omega)
              have fx := HX.out.arr.fz x
              go_wp2_with fail
              go_roundg (gk - 1)
              case measure => omega
              case rel => exact ⟨x + 1, by go_num, by omega, by omega, by omega, Lib.hid (by rw [← upTo_succ p lo x hx1]; exact HX.out.putIn (by omega))⟩
            · obtain rfl : x = lo + 1 := by omega
              have hex : ¬ ((lo : Int) + 1 ≤ lo) := by omega
              have HCY := Lib.hid HX.out
              clear HX hxl
              go_wp2_with fail
              go_roundg k
              case measure => omega
              case rel => exact ⟨n, false, span p lo lo, rfl, rfl, by omega, by omega, HR4, Lib.hid (by rw [← upTo_end]; exact HCY.out)⟩
end Go.Proofs.YtfhggnbnbopkkaaDoor
