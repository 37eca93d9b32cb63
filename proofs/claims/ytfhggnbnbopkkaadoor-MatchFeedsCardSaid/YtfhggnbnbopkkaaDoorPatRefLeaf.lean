/- The document's small pieces of trees: a byte's node, any byte's node, parts under one node. -/
import Derived.Test.YtfhggnbnbopkkaaDoorPatTop
import Derived.Deep.LoopGhost

namespace Go.Proofs.YtfhggnbnbopkkaaDoor
open Go.RowKit PM

/-- a set's node under way -/
def NodB (w : World) (b : Nat) (p : Nat → Bool) : Prop := w.heap[b]? = some (.cells #[.int .i64 2, .int .u64 (word p 0), .int .u64 (word p 1), .int .u64 (word p 2), .int .u64 (word p 3), .slice none 0 0] TN (0, 0))
theorem NodB.lt {w : World} {b : Nat} {p : Nat → Bool} (h : NodB w b p) : b < w.heap.size := lt_of_block h
theorem NodB.cell {w : World} {b : Nat} {p : Nat → Bool} (h : NodB w b p) {i : Nat} (hi : i < 4) : w.cell? ⟨b, 1 + i, none⟩ = some (.int .u64 (word p i)) := by
  rw [cell_of_row w b _ _ _ _ h]
  have : i = 0 ∨ i = 1 ∨ i = 2 ∨ i = 3 := by omega
  rcases this with rfl | rfl | rfl | rfl <;> rfl
theorem NodB.fz {w : World} {b : Nat} {p : Nat → Bool} (h : NodB w b p) (i : Nat) : w.frozen? ⟨b, i, none⟩ = false := frozen_of_row w b i _ _ h
theorem NodB.put {w : World} {b : Nat} {p q : Nat → Bool} (h : NodB w b p) {i : Nat} (hi : i < 4) (n : Int) (hn : n = word q i) (ho : ∀ j, j ≠ i → word p j = word q j) : NodB (w.setCell ⟨b, 1 + i, none⟩ (.int .u64 n)) b q := by
  have := heap_setCell_same w b (1 + i) _ _ (.int .u64 n) h
  unfold NodB; rw [this]
  have hi' : i = 0 ∨ i = 1 ∨ i = 2 ∨ i = 3 := by omega
  rcases hi' with rfl | rfl | rfl | rfl
  · simp [hn, ho 1 (by decide), ho 2 (by decide), ho 3 (by decide)]
  · simp [hn, ho 0 (by decide), ho 2 (by decide), ho 3 (by decide)]
  · simp [hn, ho 0 (by decide), ho 1 (by decide), ho 3 (by decide)]
  · simp [hn, ho 0 (by decide), ho 1 (by decide), ho 2 (by decide)]
theorem NodB.on {w w' : World} {b : Nat} {p : Nat → Bool} (h : NodB w b p) (hb : Below w.heap.size w w') : NodB w' b p := (hb.block b h.lt).trans h
theorem NodB.eqv {w : World} {b : Nat} {p q : Nat → Bool} (h : NodB w b p) (e : ∀ k, k < 256 → p k = q k) : NodB w b q := by
  unfold NodB at h ⊢
  rw [← word_congr (p := p) (q := q) (i := 0) fun k hk => e _ (by omega), ← word_congr (p := p) (q := q) (i := 1) fun k hk => e _ (by omega), ← word_congr (p := p) (q := q) (i := 2) fun k hk => e _ (by omega), ← word_congr (p := p) (q := q) (i := 3) fun k hk => e _ (by omega)]
  exact h

theorem roneV (c : Nat) (i : Nat) (h : c / 64 = i) (hi : i < 4) : nodeV (one c) (.slice none 0 0) = .agg #[.int .i64 2, .int .u64 (if i = 0 then IntKind.u64.wrap (2 ^ (c % 64)) else 0), .int .u64 (if i = 1 then IntKind.u64.wrap (2 ^ (c % 64)) else 0), .int .u64 (if i = 2 then IntKind.u64.wrap (2 ^ (c % 64)) else 0), .int .u64 (if i = 3 then IntKind.u64.wrap (2 ^ (c % 64)) else 0), .slice none 0 0] := oneV c i h hi

set_option maxRecDepth 100000 in
theorem rone_any (c : Nat) (hc : c < 256) (w : World) :
    Calls Tryd.prog 60 #[.int .u8 c] w fun e w' => e = .returned (nodeV (one c) (.slice none 0 0)) ∧ Below w.heap.size w w' := by
  have hc' : (c : Int) < 256 := by omega
  have h2 : (0 : Int) ≤ (c : Int) % 64 := by omega
  have h3 : (c : Int) % 64 < 64 := by omega
  have h : c / 64 = 0 ∨ c / 64 = 1 ∨ c / 64 = 2 ∨ c / 64 = 3 := by omega
  have hb : ∀ x y, Below w.heap.size w ((w.alloc (.cells x TN)).alloc (.cells y TN)) := fun x y => ((Below.refl _ _).alloc (Nat.le_refl _) _).alloc (by simp) _
  rcases h with h | h | h | h
  · rw [oneV c 0 h (by decide)]
    have HB := Lib.hid hb; clear hb
    have h' : (c : Int) / 64 = 0 := by omega
    clear h
    go_enter Tryd.func60, Tryd.ntmps60
    go_wp2_with fail
    exact bodyPost_ret (v := .agg #[.int .i64 2, .int .u64 (IntKind.u64.wrap (2 ^ (c % 64))), .int .u64 0, .int .u64 0, .int .u64 0, .slice none 0 0]) (by simp [results, Tryd.results60, go_sem]) rfl ⟨by simp, HB.out _ _⟩
  · rw [oneV c 1 h (by decide)]
    have HB := Lib.hid hb; clear hb
    have h' : (c : Int) / 64 = 1 := by omega
    clear h
    go_enter Tryd.func60, Tryd.ntmps60
    go_wp2_with fail
    exact bodyPost_ret (v := .agg #[.int .i64 2, .int .u64 0, .int .u64 (IntKind.u64.wrap (2 ^ (c % 64))), .int .u64 0, .int .u64 0, .slice none 0 0]) (by simp [results, Tryd.results60, go_sem]) rfl ⟨by simp, HB.out _ _⟩
  · rw [oneV c 2 h (by decide)]
    have HB := Lib.hid hb; clear hb
    have h' : (c : Int) / 64 = 2 := by omega
    clear h
    go_enter Tryd.func60, Tryd.ntmps60
    go_wp2_with fail
    exact bodyPost_ret (v := .agg #[.int .i64 2, .int .u64 0, .int .u64 0, .int .u64 (IntKind.u64.wrap (2 ^ (c % 64))), .int .u64 0, .slice none 0 0]) (by simp [results, Tryd.results60, go_sem]) rfl ⟨by simp, HB.out _ _⟩
  · rw [oneV c 3 h (by decide)]
    have HB := Lib.hid hb; clear hb
    have h' : (c : Int) / 64 = 3 := by omega
    clear h
    go_enter Tryd.func60, Tryd.ntmps60
    go_wp2_with fail
    exact bodyPost_ret (v := .agg #[.int .i64 2, .int .u64 0, .int .u64 0, .int .u64 0, .int .u64 (IntKind.u64.wrap (2 ^ (c % 64))), .slice none 0 0]) (by simp [results, Tryd.results60, go_sem]) rfl ⟨by simp, HB.out _ _⟩

set_option maxRecDepth 100000 in
theorem rover_any (op : Nat) (B : Nat) (v : Value) (ps : List (T × Value)) (w : World) (hk : Kids w B v ps) (hl : ps.length ≤ 1000000) :
    Calls Tryd.prog 61 #[.int .i64 op, v] w fun e w' => ∃ K, e = .returned (nodeV (joined op (ps.map (·.1))) K) ∧ IsT w' (fun b => B ≤ b) K (joined op (ps.map (·.1))) ∧ Below w.heap.size w w' := by
  match ps, hk, hl with
  | [], hk, hl =>
    have hb := below_new w (.cells #[.int .i64 1, .int .u64 0, .int .u64 0, .int .u64 0, .int .u64 0, .slice none 0 0] TN)
    simp only [List.map_nil, joined, nodeV_op]
    rcases hk.own.2 with ⟨rfl, _⟩ | ⟨g, cap, cur, rfl, _⟩
    all_goals
      have HB := Lib.hid hb; clear hb hk
      go_enter Tryd.func61, Tryd.ntmps61
      go_wp2_with fail
      exact bodyPost_ret (v := .agg #[.int .i64 1, .int .u64 0, .int .u64 0, .int .u64 0, .int .u64 0, .slice none 0 0]) (by simp [results, Tryd.results61, go_sem]) rfl ⟨_, rfl, IsT.nil _ _, HB.out⟩
  | [q], hk, hl =>
    obtain ⟨t, K⟩ := q
    obtain ⟨Ak, ck, hKs⟩ : ∃ Ak ck, K = .slice Ak t.kids.length ck := (hk.each (t, K) (by simp)).slice
    subst hKs
    obtain ⟨g, cap, rfl, hgB, hgl⟩ := hk.own.form (by simp)
    have hc := fun j u h => hk.own.cells (g := g) rfl j u h
    have hb := below_new w (.cells (nodeC t (.slice Ak t.kids.length ck)).toArray TN)
    have hT : IsT (w.alloc (.cells (nodeC t (.slice Ak t.kids.length ck)).toArray TN)) (fun b => B ≤ b) (.slice Ak t.kids.length ck) t := ((hk.each (t, (.slice Ak t.kids.length ck)) (by simp)).imp fun b h _ => h.1).on hb
    have HT := Lib.hid hT; have HB := Lib.hid hb
    simp only [rowC, List.flatMap_cons, List.flatMap_nil, List.append_nil] at hc
    have k0 := hc 0 _ rfl; have k1 := hc 1 _ rfl; have k2 := hc 2 _ rfl; have k3 := hc 3 _ rfl; have k4 := hc 4 _ rfl; have k5 := hc 5 _ rfl
    simp only [Addr.add, if_true, Nat.reduceEqDiff, if_false, Nat.zero_add, Nat.add_zero] at k0 k1 k2 k3 k4 k5
    simp only [nodeC, nodeV] at HT HB ⊢
    clear hc hb hT hk
    simp only [List.map_cons, List.map_nil, joined, List.length_singleton]
    generalize word t.set 0 = x0 at *
    generalize word t.set 1 = x1 at *
    generalize word t.set 2 = x2 at *
    generalize word t.set 3 = x3 at *
    generalize t.op = xo at *
    go_enter Tryd.func61, Tryd.ntmps61
    go_wp2_with fail
    exact bodyPost_ret (v := .agg #[.int .i64 xo, .int .u64 x0, .int .u64 x1, .int .u64 x2, .int .u64 x3, .slice Ak t.kids.length ck]) (by simp [results, Tryd.results61, go_sem]) rfl ⟨_, rfl, HT.out, HB.out⟩
  | q :: r :: l, hk, hl =>
    obtain ⟨g, cap, rfl, hgB, hgl⟩ := hk.own.form (by simp)
    have hb := below_new w (.cells #[.int .i64 op, .int .u64 0, .int .u64 0, .int .u64 0, .int .u64 0, .slice (some ⟨g, 0, none⟩) (q :: r :: l).length cap] TN)
    have hT := (hk.node op noSet).on hb
    simp only [List.map_cons, joined, nodeV_op] at hT ⊢
    have HT := Lib.hid hT; have HB := Lib.hid hb
    have hl2 : (2 : Int) ≤ ((q :: r :: l).length : Int) := by simp; omega
    have hl3 : ((q :: r :: l).length : Int) ≤ 1000000 := by omega
    have hl4 : (((q :: r :: l).length : Int) == 0) = false := by rw [beq_eq_false_iff_ne]; omega
    have hl5 : (((q :: r :: l).length : Int) == 1) = false := by rw [beq_eq_false_iff_ne]; omega
    clear hT hb hk hl
    generalize (q :: r :: l).length = n at *
    go_enter Tryd.func61, Tryd.ntmps61
    go_wp2_with fail
    exact bodyPost_ret (v := .agg #[.int .i64 op, .int .u64 0, .int .u64 0, .int .u64 0, .int .u64 0, .slice (some ⟨g, 0, none⟩) n cap]) (by simp [results, Tryd.results61, go_sem]) rfl ⟨_, rfl, HT.out, HB.out⟩

theorem below_rowB (B : Nat) (w : World) (b : Nat) (cs : Array Value) (h : B ≤ b) : Below B w (w.setRow b cs) := ⟨rfl, rfl, rfl, by simp, fun k hk => setRow_other _ _ _ _ (by omega)⟩

/-- what All and class hold -/
structure LfS (w wr : World) (p : Nat → Bool) : Prop where
  res : wr.heap[w.heap.size]? = some (.cells zN TN (0, 0))
  set : NodB wr (w.heap.size + 1) p
  up : Below w.heap.size w wr
theorem LfS.put {w wr : World} {p q : Nat → Bool} (h : LfS w wr p) {i : Nat} (hi : i < 4) (n : Int) (hn : n = word q i) (ho : ∀ j, j ≠ i → word p j = word q j) : LfS w (wr.setCell ⟨w.heap.size + 1, 1 + i, none⟩ (.int .u64 n)) q :=
  ⟨(Below.heap_setCell _ _ _ _ (by simp)).trans h.res, h.set.put hi n hn ho, h.up.setCell (by simp) _⟩
theorem LfS.drew {w wr : World} {p : Nat → Bool} (h : LfS w wr p) : LfS w wr.drew p := ⟨h.res, h.set, h.up.drew⟩
theorem LfS.on {w wr w' : World} {p : Nat → Bool} (h : LfS w wr p) (hb : Below wr.heap.size wr w') : LfS w w' p :=
  ⟨(hb.block _ (lt_of_block h.res)).trans h.res, h.set.on hb, below_then h.up hb (Nat.le_refl _)⟩
theorem LfS.eqv {w wr : World} {p q : Nat → Bool} (h : LfS w wr p) (e : ∀ k, k < 256 → p k = q k) : LfS w wr q := ⟨h.res, h.set.eqv e, h.up⟩
def allW (w : World) : World := (w.alloc (.cells zN TN)).alloc (.cells #[.int .i64 2, .int .u64 0, .int .u64 0, .int .u64 0, .int .u64 0, .slice none 0 0] TN)
theorem allW_facts (w : World) : LfS w (allW w) noSet := by
  have b1 := below_new w (.cells zN TN)
  have b2 := below_new (w.alloc (.cells zN TN)) (.cells #[.int .i64 2, .int .u64 0, .int .u64 0, .int .u64 0, .int .u64 0, .slice none 0 0] TN)
  have h1 := heap_alloc_new w (.cells zN TN)
  have h2 := heap_alloc_new (w.alloc (.cells zN TN)) (.cells #[.int .i64 2, .int .u64 0, .int .u64 0, .int .u64 0, .int .u64 0, .slice none 0 0] TN)
  simp only [World.size_alloc] at b2 h2
  exact ⟨(b2.block _ (by omega)).trans h1, by unfold NodB; rw [word_none, word_none, word_none, word_none]; exact h2, b1.trans (b2.mono (by omega))⟩

theorem info_nodeS : (Tryd.prog.info? TN).map (·.size) = some 6 := by kernel_rfl

set_option maxRecDepth 100000 in
set_option maxHeartbeats 4000000 in
theorem rall_any (w : World) : Calls Tryd.prog 62 #[] w fun e w' => e = .returned (nodeV every (.slice none 0 0)) ∧ Below w.heap.size w w' := by
  have H0 := Lib.hid (allW_facts w)
  go_enter Tryd.func62, Tryd.ntmps62
  go_wp2_with fail
  change Code.wp _ _ _ _ (allW w)
  generalize allW w = W0 at *
  go_loopg [2] 257 (fun k v2 wr => ∃ x : Nat, v2 = .int .i64 x ∧ x ≤ 256 ∧ 256 - x < k ∧ Hid (LfS w wr (upTo noSet 0 x)))
  case atStart => exact ⟨0, rfl, by omega, by omega, Lib.hid (by rw [upTo_zero]; exact H0.out)⟩
  case round =>
    clear H0
    obtain ⟨x, rfl, hx, hxk, HA⟩ := hrel
    by_cases hxl : x < 256
    · have hx256 : (x : Int) < 256 := by omega
      have e0 : (0 : Int) ≤ x := by omega
      have e1 : (0 : Int) ≤ (x : Int) / 64 := by omega
      have e2 : (x : Int) / 64 < 4 := by omega
      have e3 : (0 : Int) ≤ (x : Int) % 64 := by omega
      have e4 : (x : Int) % 64 < 64 := by omega
      have cx := HA.out.set.cell (i := x / 64) (by omega)
      have fx := HA.out.set.fz (1 + x / 64)
      have ho := or_word (upTo noSet 0 x) (x / 64) x rfl
      go_wp2_with fail
      go_region
      all_goals
        go_wp2_with fail
        go_roundg (gk - 1)
        case measure => omega
        case rel => exact ⟨x + 1, by go_num, by omega, by omega, Lib.hid (by rw [← upTo_succ noSet 0 x (by omega)]; exact (HA.out.put (i := x / 64) (by omega) _ rfl (fun j hj => word_addK_ne _ _ _ (Ne.symm hj))).drew)⟩
    · obtain rfl : x = 256 := by omega
      have HF : Hid (LfS w wr (fun _ => true)) := Lib.hid (HA.out.eqv fun k hk => by simp [upTo, hk])
      clear HA
      go_wp2_with (first | (refine wpList_load_row rfl TN (.tmp 1) rfl (w.heap.size + 1) rfl TN _ (0, 0) _ HF.out.set Tryd.underlying66 rfl (by kernel_rfl) ?_) | (refine wpList_store_row rfl TN (.tmp 0) (.tmp 19) rfl w.heap.size _ rfl rfl TN zN HF.out.res (by kernel_rfl) rfl (by simp [Value.oneCell']) ?_))
      exact bodyPost_ret (results_cell_row rfl _ _ w.heap.size TN _ (0, 0) _ rfl (setRow_heap _ _ _ _ _ _ HF.out.res) Tryd.underlying66 rfl (by kernel_rfl)) rfl ⟨rfl, HF.out.up.trans (below_rowB _ _ _ _ (Nat.le_refl _))⟩
end Go.Proofs.YtfhggnbnbopkkaaDoor

namespace Go.Proofs.YtfhggnbnbopkkaaDoor
open Go.RowKit PM

/-- what the document's byte of a class tells -/
def rmemV (r : R Nat) : Value :=
  match r with
  | .ok x n => .tuple #[.int .u8 x, .int .i64 n, .bool true]
  | .bad k => .tuple #[.int .u8 0, .int .i64 k, .bool false]

set_option maxRecDepth 100000 in
theorem rmember_any (s : ByteArray) (a : Nat) (w : World) (ha : a ≤ s.size) (hs : s.size ≤ 1000000) :
    Calls Tryd.prog 74 #[.string s, .int .i64 a] w fun e w' => e = .returned (rmemV (member s.data.toList a)) ∧ w = w' := by
  rcases member_cases s.data.toList a with ⟨h1, hm⟩ | ⟨c, h1, h2, h3, hm⟩ | ⟨c, d, h1, h2, h3, hm⟩ | ⟨c, h1, h2, hm⟩ | ⟨c, h1, h2, h3, h4, h5, h6, hm⟩
  · rw [hm]
    simp only [rmemV]
    have hl := byte_none s a h1
    obtain rfl : a = s.size := by omega
    clear h1 hm hl
    go_enter Tryd.func74, Tryd.ntmps74
    go_wp2_with fail
    go_ret3
    exact ⟨rfl, rfl⟩
  · rw [hm]
    simp only [rmemV]
    obtain ⟨hl, rfl⟩ := byte_at s a c h1
    have hl2 := byte_none s (a + 1) h3
    have x0 : ((a : Int) == (s.size : Int)) = false := by rw [beq_eq_false_iff_ne]; omega
    have x1 : ((s[a].toNat : Int) == 91) = false := by rw [h2]; rfl
    have x2 : ((s[a].toNat : Int) == 93) = false := by rw [h2]; rfl
    have x3 : ((s[a].toNat : Int) == 94) = false := by rw [h2]; rfl
    have x4 : ((s[a].toNat : Int) == 45) = false := by rw [h2]; rfl
    have x5 : ((s[a].toNat : Int) != 92) = false := by rw [h2]; rfl
    have x6 : ((a : Int) + 1 == (s.size : Int)) = true := by rw [beq_iff_eq]; omega
    have hl3 : (a : Int) < s.size := by omega
    have hl4 : (a : Int) ≤ 1000000 := by omega
    have hl5 : (0 : Int) ≤ a := by omega
    clear h1 hm h2 h3 hl2
    go_enter Tryd.func74, Tryd.ntmps74
    go_wp2_with fail
    go_ret3
    exact ⟨rfl, rfl⟩
  · rw [hm]
    simp only [rmemV]
    obtain ⟨hl, rfl⟩ := byte_at s a c h1
    obtain ⟨hl2, rfl⟩ := byte_at s (a + 1) d h3
    have x0 : ((a : Int) == (s.size : Int)) = false := by rw [beq_eq_false_iff_ne]; omega
    have x1 : ((s[a].toNat : Int) == 91) = false := by rw [h2]; rfl
    have x2 : ((s[a].toNat : Int) == 93) = false := by rw [h2]; rfl
    have x3 : ((s[a].toNat : Int) == 94) = false := by rw [h2]; rfl
    have x4 : ((s[a].toNat : Int) == 45) = false := by rw [h2]; rfl
    have x5 : ((s[a].toNat : Int) != 92) = false := by rw [h2]; rfl
    have x6 : ((a : Int) + 1 == (s.size : Int)) = false := by rw [beq_eq_false_iff_ne]; omega
    have hl3 : (a : Int) < s.size := by omega
    have hl4 : (a : Int) ≤ 1000000 := by omega
    have hl5 : (0 : Int) ≤ a := by omega
    have hl6 : (a : Int) + 1 < s.size := by omega
    clear h1 hm h2 h3
    go_enter Tryd.func74, Tryd.ntmps74
    go_wp2_with fail
    go_ret3
    exact ⟨rfl, rfl⟩
  · rw [hm]
    simp only [rmemV]
    obtain ⟨hl, rfl⟩ := byte_at s a c h1
    have x0 : ((a : Int) == (s.size : Int)) = false := by rw [beq_eq_false_iff_ne]; omega
    have hl3 : (a : Int) < s.size := by omega
    have hl4 : (a : Int) ≤ 1000000 := by omega
    have hl5 : (0 : Int) ≤ a := by omega
    clear h1 hm
    rcases h2 with h2 | h2 | h2 | h2
    all_goals
      have i1 := beq_lit 91 h2
      first | (have j1 : ((s[a].toNat : Int) == 91) = true := i1) | (have j1 : ((s[a].toNat : Int) == 91) = false := i1)
      clear i1
      have i2 := beq_lit 93 h2
      first | (have j2 : ((s[a].toNat : Int) == 93) = true := i2) | (have j2 : ((s[a].toNat : Int) == 93) = false := i2)
      clear i2
      have i3 := beq_lit 94 h2
      first | (have j3 : ((s[a].toNat : Int) == 94) = true := i3) | (have j3 : ((s[a].toNat : Int) == 94) = false := i3)
      clear i3
      have i4 := beq_lit 45 h2
      first | (have j4 : ((s[a].toNat : Int) == 45) = true := i4) | (have j4 : ((s[a].toNat : Int) == 45) = false := i4)
      clear i4
      clear h2
      go_enter Tryd.func74, Tryd.ntmps74
      go_wp2_with fail
      go_ret3
      exact ⟨rfl, rfl⟩
  · rw [hm]
    simp only [rmemV]
    obtain ⟨hl, rfl⟩ := byte_at s a c h1
    have x0 : ((a : Int) == (s.size : Int)) = false := by rw [beq_eq_false_iff_ne]; omega
    have x1 : ((s[a].toNat : Int) == 91) = false := by rw [beq_eq_false_iff_ne]; omega
    have x2 : ((s[a].toNat : Int) == 93) = false := by rw [beq_eq_false_iff_ne]; omega
    have x3 : ((s[a].toNat : Int) == 94) = false := by rw [beq_eq_false_iff_ne]; omega
    have x4 : ((s[a].toNat : Int) == 45) = false := by rw [beq_eq_false_iff_ne]; omega
    have x5 : ((s[a].toNat : Int) != 92) = true := by rw [bne_iff_ne]; omega
    have hl3 : (a : Int) < s.size := by omega
    have hl4 : (a : Int) ≤ 1000000 := by omega
    have hl5 : (0 : Int) ≤ a := by omega
    clear h1 hm h2 h3 h4 h5 h6
    go_enter Tryd.func74, Tryd.ntmps74
    go_wp2_with fail
    go_ret3
    exact ⟨rfl, rfl⟩
end Go.Proofs.YtfhggnbnbopkkaaDoor

namespace Go.Proofs.YtfhggnbnbopkkaaDoor
open Go.RowKit PM

/-- what a call of the document's that reads a tree tells -/
def RefIs (w : World) (r : R T) (e : Ending) (w' : World) : Prop :=
  match r with
  | .ok t n => ∃ K, e = .returned (.tuple #[nodeV t K, .int .i64 n, .bool true]) ∧ IsT w' (fun b => w.heap.size ≤ b) K t ∧ Below w.heap.size w w'
  | .bad k => e = .returned (.tuple #[.agg zN, .int .i64 k, .bool false]) ∧ Below w.heap.size w w'
theorem refIs_bad {w w' : World} {k : Nat} {e : Ending} (h : e = .returned (.tuple #[.agg zN, .int .i64 k, .bool false])) (hb : Below w.heap.size w w') : RefIs w (.bad k) e w' := ⟨h, hb⟩
theorem refIs_ok {w w' : World} {t : T} {n : Nat} {K : Value} {e : Ending} (h : e = .returned (.tuple #[nodeV t K, .int .i64 n, .bool true])) (h1 : IsT w' (fun b => w.heap.size ≤ b) K t) (hb : Below w.heap.size w w') : RefIs w (.ok t n) e w' := ⟨K, h, h1, hb⟩

theorem results_rtt {fn : Func} {p1 p2 p3 : Tmp} {t1 : TypeId} (h : fn.results = #[.cell p1 t1, .tmp p2, .tmp p3]) (tmps : Array Value) (W : World) (b : Nat) (X Y Z : Value)
    (h1 : tmps.getD p1 undef = .pointer (some ⟨b, 0, none⟩)) (h2 : tmps.getD p2 undef = Y) (h3 : tmps.getD p3 undef = Z) (l1 : (loadVar t1 ⟨b, 0, none⟩).run Tryd.prog W = .ok X W) :
    (results fn tmps).run Tryd.prog W = .ok (.tuple #[X, Y, Z]) W := by
  have h1' : tmps[p1]?.getD undef = .pointer (some ⟨b, 0, none⟩) := by simpa using h1
  have h2' : tmps[p2]?.getD undef = Y := by simpa using h2
  have h3' : tmps[p3]?.getD undef = Z := by simpa using h3
  simp [results, h, h1', h2', h3', asAddr, l1]

/-- a node lies there -/
structure NodAt (W : World) (B : Nat) (t : T) (K : Value) : Prop where
  node : W.heap[B]? = some (.cells (nodeC t K).toArray TN (0, 0))
theorem NodAt.on {W W' : World} {B : Nat} {t : T} {K : Value} (h : NodAt W B t K) (hb : Below W.heap.size W W') : NodAt W' B t K := ⟨(hb.block _ (lt_of_block h.node)).trans h.node⟩
theorem NodAt.cells {W : World} {B : Nat} {t : T} {K : Value} (h : NodAt W B t K) : W.cell? ⟨B, 0, none⟩ = some (.int .i64 t.op) ∧ W.cell? ⟨B, 1, none⟩ = some (.int .u64 (word t.set 0)) ∧ W.cell? ⟨B, 2, none⟩ = some (.int .u64 (word t.set 1)) ∧
    W.cell? ⟨B, 3, none⟩ = some (.int .u64 (word t.set 2)) ∧ W.cell? ⟨B, 4, none⟩ = some (.int .u64 (word t.set 3)) ∧ W.cell? ⟨B, 5, none⟩ = some K := by
  refine ⟨?_, ?_, ?_, ?_, ?_, ?_⟩ <;> (rw [cell_of_row _ _ _ _ _ _ h.node]; rfl)
theorem NodAt.made (w : World) (t : T) (K : Value) : NodAt (w.alloc (.cells #[.int .i64 t.op, .int .u64 (word t.set 0), .int .u64 (word t.set 1), .int .u64 (word t.set 2), .int .u64 (word t.set 3), K] TN)) w.heap.size t K := ⟨heap_alloc_new w _⟩

/-- a node stored into the result's block -/
theorem GS.put {w wr : World} {v : Value} {ps : List (T × Value)} {t : T} {K : Value} (h : GS w wr v ps) (hK : IsT wr (fun b => w.heap.size + 1 ≤ b) K t) (Y : Array Value) :
    IsT (wr.setRow w.heap.size Y) (fun b => w.heap.size ≤ b) K t ∧ Below w.heap.size w (wr.setRow w.heap.size Y) :=
  ⟨(hK.grown (grown_row wr w.heap.size _) (fun b hb e => by cases e; omega)).imp fun b hb _ => by omega, h.up.trans (below_rowB _ _ _ _ (Nat.le_refl _))⟩
theorem GS.bad {w wr : World} {v : Value} {ps : List (T × Value)} (h : GS w wr v ps) (Y : Array Value) : Below w.heap.size w (wr.setRow w.heap.size Y) := h.up.trans (below_rowB _ _ _ _ (Nat.le_refl _))

theorem alts_end {s : List UInt8} : ∀ (f a : Nat) (acc : List T) {t : T} {n : Nat}, alts f s a acc = .ok t n → a ≤ s.length → s[n]? = none ∨ s[n]? = some 41
  | 0, a, acc, t, n, h, _ => by simp [alts] at h
  | f + 1, a, acc, t, n, h, ha => by
    simp only [alts] at h
    cases hr : row f s a [] with
    | bad k => rw [hr] at h; cases h
    | ok x m =>
      rw [hr] at h
      obtain ⟨h1, h2, h3⟩ := (read_pos s f).2.1 _ _ _ _ hr ha
      simp only [] at h
      split at h
      · rename_i hb
        exact alts_end f _ _ h (by have := (List.getElem?_eq_some_iff.1 hb).1; omega)
      · rename_i hb
        cases h
        rcases h3 with h3 | h3 | h3
        · exact .inl h3
        · exact absurd h3 hb
        · exact .inr h3

def RAltsC (f : Nat) : Prop := ∀ (s : ByteArray) (a : Nat) (w : World), a ≤ s.size → s.size ≤ 100000 → 3 * (s.size - a) + 3 ≤ f →
  Calls Tryd.prog 47 #[.string s, .int .i64 a] w (RefIs w (alts f s.data.toList a []))
def RRowC (f : Nat) : Prop := ∀ (s : ByteArray) (a : Nat) (w : World), a ≤ s.size → s.size ≤ 100000 → 3 * (s.size - a) + 2 ≤ f →
  Calls Tryd.prog 63 #[.string s, .int .i64 a] w (RefIs w (row f s.data.toList a []))
def RAtomC (f : Nat) : Prop := ∀ (s : ByteArray) (a : Nat) (w : World), a < s.size → s.size ≤ 100000 → 3 * (s.size - a) + 1 ≤ f →
  Calls Tryd.prog 69 #[.string s, .int .i64 a] w (RefIs w (atom f s.data.toList a))

attribute [local go_sem] nodeC

theorem gs_start (w : World) : GS w (w.alloc (.cells zN TN)) (.slice none 0 0) [] := ⟨Kids.nil _ _, heap_alloc_new w _, below_new w _⟩

/-- a place's byte: the end, or one that is something or not -/
theorem at_three (s : ByteArray) (m : Nat) (x : UInt8) (n : Int) (hx : (x.toNat : Int) = n) (hm : m ≤ s.size) :
    (s.size ≤ m ∧ ((m : Int) == (s.size : Int)) = true ∧ ¬ s.data.toList[m]? = some x) ∨
    (∃ h : m < s.size, ((m : Int) == (s.size : Int)) = false ∧ ((s[m].toNat : Int) != n) = false ∧ s.data.toList[m]? = some x) ∨
    (∃ h : m < s.size, ((m : Int) == (s.size : Int)) = false ∧ ((s[m].toNat : Int) != n) = true ∧ ¬ s.data.toList[m]? = some x) := by
  rcases byte_three s.data.toList m x n hx with ⟨h1, h2⟩ | ⟨c, h1, h2, h3⟩ | ⟨c, h1, h2, h3⟩
  · have := byte_none s m h1
    exact .inl ⟨by omega, by rw [beq_iff_eq]; omega, h2⟩
  · obtain ⟨hl, rfl⟩ := byte_at s m c h1
    exact .inr (.inl ⟨hl, by rw [beq_eq_false_iff_ne]; omega, by rw [bne, h2]; rfl, h3⟩)
  · obtain ⟨hl, rfl⟩ := byte_at s m c h1
    exact .inr (.inr ⟨hl, by rw [beq_eq_false_iff_ne]; omega, by rw [bne, h2]; rfl, h3⟩)

set_option maxRecDepth 100000 in
set_option maxHeartbeats 8000000 in
theorem ralts_step (F : Nat) (ih : ∀ f, f < F → RRowC f) : RAltsC F := by
  intro s a w ha hs hF
  obtain ⟨r, hr⟩ : ∃ r, alts F s.data.toList a [] = r := ⟨_, rfl⟩
  rw [hr]
  have HR := Lib.hid hr; have IH := Lib.hid ih; have H0 := Lib.hid (gs_start w)
  clear hr ih
  go_enter Tryd.func47, Tryd.ntmps47
  go_wp2_with fail
  change Code.wp _ _ _ _ (w.alloc (.cells zN TN))
  generalize w.alloc (.cells zN TN) = W0 at *
  go_loopg [1, 7] F (fun k v1 v7 wr => ∃ (b : Nat) (ps : List (T × Value)), v1 = .int .i64 b ∧ b ≤ s.size ∧ ps.length ≤ b ∧ 3 * (s.size - b) + 3 ≤ k ∧ k ≤ F ∧ Hid (alts k s.data.toList b (ps.map (·.1)) = r) ∧ Hid (GS w wr v7 ps))
  case atStart => exact ⟨a, [], rfl, ha, by simp, hF, Nat.le_refl _, HR, H0⟩
  case round =>
    clear H0 HR ha hF
    obtain ⟨b, ps, rfl, hbs, hpl, hk1, hk2, HR, HG⟩ := hrel
    obtain ⟨k, rfl⟩ : ∃ k, gk = k + 1 := ⟨gk - 1, by omega⟩
    have hr := HR.out
    simp only [alts] at hr
    have HR1 := Lib.hid hr
    clear hr HR
    go_wp2_with fail
    refine (IH.out k (by omega) s b wr hbs hs (by omega)).mono ?_
    rintro e w1 hm
    have hr := HR1.out
    rcases hrow : row k s.data.toList b [] with ⟨y, m⟩ | ⟨k'⟩
    case bad =>
      rw [hrow] at hm hr
      obtain ⟨rfl, hb⟩ := hm
      subst hr
      have HG1 := Lib.hid ((HG.out.on hb).on (below_new w1 (.cells zN TN)))
      clear hb HG HR1 hrow
      simp only [zN] at HG1 ⊢
      go_wp2_with (refine wpList_store_row rfl TN (.tmp 4) (.tmp 20) rfl w.heap.size zN rfl rfl TN zN HG1.out.res (by kernel_rfl) rfl (by simp [zN, Value.oneCell']) ?_)
      exact bodyPost_ret (v := .tuple #[.agg zN, .int .i64 k', .bool false]) (results_rtt rfl _ _ w.heap.size _ _ _ rfl rfl rfl (load_node _ _ zN (setRow_heap _ _ _ _ _ _ HG1.out.res) rfl)) rfl (refIs_bad rfl (HG1.out.bad _))
    case ok =>
    rw [hrow] at hm hr
    obtain ⟨K, rfl, hK, hb⟩ := hm
    obtain ⟨A, c, rfl⟩ := hK.slice
    obtain ⟨hbm, hms, -⟩ := (read_pos s.data.toList k).2.1 _ _ _ _ hrow hbs
    have hml : m ≤ s.size := hms
    have HG1 := Lib.hid (HG.out.on hb)
    have HR2 := Lib.hid (show (if s.data.toList[m]? = some 124 then alts k s.data.toList (m + 1) (ps.map (·.1) ++ [y]) else .ok (joined 4 (ps.map (·.1) ++ [y])) m) = r from hr)
    have hsz : w.heap.size + 1 ≤ wr.heap.size := lt_of_block HG.out.res
    have HK := Lib.hid (HG.out.kids.far hsz hK)
    clear hb hK HG hr HR1 hrow hms hsz
    simp only [nodeV]
    go_upto_region 5 with (fail)
    have hN := NodAt.made w1 y (.slice A y.kids.length c)
    have hAB := below_new w1 (.cells #[.int .i64 y.op, .int .u64 (word y.set 0), .int .u64 (word y.set 1), .int .u64 (word y.set 2), .int .u64 (word y.set 3), .slice A y.kids.length c] TN)
    have HG2 := Lib.hid (HG1.out.on hAB)
    have HK2 := Lib.hid (HK.out.on hAB)
    obtain ⟨k0, k1, k2, k3, k4, k5⟩ := hN.cells
    clear hN hAB HG1 HK
    generalize w1.alloc (.cells #[.int .i64 y.op, .int .u64 (word y.set 0), .int .u64 (word y.set 1), .int .u64 (word y.set 2), .int .u64 (word y.set 3), .slice A y.kids.length c] TN) = w2 at *
    generalize w1.heap.size = B8 at *
    have hszw : w.heap.size + 1 ≤ w2.heap.size := lt_of_block HG2.out.res
    have hmi : (m : Int) ≤ 100000 := by omega
    have hmi0 : (0 : Int) ≤ m := by omega
    obtain ⟨qs, hqs⟩ : ∃ qs, ps ++ [(y, Value.slice A y.kids.length c)] = qs := ⟨_, rfl⟩
    have hpl2 : qs.length ≤ m + 1 := by rw [← hqs]; simp; omega
    have HR3 := Lib.hid (show (if s.data.toList[m]? = some 124 then alts k s.data.toList (m + 1) (qs.map (·.1)) else .ok (joined 4 (qs.map (·.1))) m) = r by rw [← hqs]; simpa using HR2.out)
    have HQS := Lib.hid hqs
    clear HR2 hqs
    rcases at_three s m 124 124 rfl hml with ⟨-, h2, h3⟩ | ⟨hl, h1, h2, h3⟩ | ⟨hl, h1, h2, h3⟩
    case inr.inl =>
      have hr := HR3.out
      rw [if_pos h3] at hr
      have HR4 := Lib.hid hr
      have hli : (m : Int) < s.size := by omega
      clear hr h3 HR3
      go_wp2_with (refine wpList_append_node rfl (.tmp 22) (.tmp 24) rfl (w.heap.size + 1) _ ps rfl HG2.out.kids y (.slice A y.kids.length c) _ rfl rfl HK2.out (by omega) hszw ?_; intro v' w5 hk hb hsz5; have HG3 := Lib.hid (HG2.out.app hk hb); rw [HQS.out] at HG3; clear k0 k1 k2 k3 k4 k5 hk hb hsz5 HK2 HG2 HQS)
      go_roundg k
      case measure => omega
      case rel => exact ⟨m + 1, qs, by go_num, by omega, by omega, by omega, by omega, HR4, HG3⟩
    all_goals
      have hr := HR3.out
      rw [if_neg h3] at hr
      obtain ⟨t, ht⟩ : ∃ t, joined 4 (qs.map (·.1)) = t := ⟨_, rfl⟩
      have hJ := fun v' w5 hk => rover_any 4 (w.heap.size + 1) v' qs w5 hk (by omega)
      rw [ht] at hJ hr
      have HRE := Lib.hid hr; have HJ := Lib.hid hJ
      try have hli : (m : Int) < s.size := by omega
      clear hr ht h3 HR3 hJ
      go_wp2_with (refine wpList_append_node rfl (.tmp 22) (.tmp 24) rfl (w.heap.size + 1) _ ps rfl HG2.out.kids y (.slice A y.kids.length c) _ rfl rfl HK2.out (by omega) hszw ?_; intro v' w5 hk hb hsz5; have HG3 := Lib.hid (HG2.out.app hk hb); rw [HQS.out] at HG3; clear k0 k1 k2 k3 k4 k5 hk hb hsz5 HK2 HG2 HQS)
      refine (HJ.out _ _ HG3.out.kids).mono ?_
      rintro e w6 ⟨K3, rfl, hK3, hb3⟩
      have HG4 := Lib.hid (HG3.out.on hb3)
      have HD := Lib.hid (HG4.out.put hK3 (nodeC t K3).toArray)
      have HA := Lib.hid (node_all hK3)
      clear hK3 hb3 HG3 HJ
      go_wp2_with (refine wpList_store_row rfl TN (.tmp 4) (.tmp 37) rfl w.heap.size (nodeC t K3).toArray rfl rfl TN zN HG4.out.res (by kernel_rfl) rfl HA.out ?_)
      exact bodyPost_ret (v := .tuple #[.agg (nodeC t K3).toArray, .int .i64 m, .bool true]) (results_rtt rfl _ _ w.heap.size _ _ _ rfl rfl rfl (load_node _ _ _ (setRow_heap _ _ _ _ _ _ HG4.out.res) rfl)) rfl (by rw [← HRE.out]; exact refIs_ok rfl HD.out.1 HD.out.2)
end Go.Proofs.YtfhggnbnbopkkaaDoor
