/- The document's small pieces of trees: a byte's node, any byte's node, parts under one node. -/
import Derived.Test.YtpiflikblpfgoaaDoorPatTop
import Derived.Deep.LoopGhost
namespace Go.Proofs.YtpiflikblpfgoaaDoor
open Go.RowKit PM

/-- a set's node under way -/
def NodB (w : World) (b : Nat) (p : Nat → Bool) : Prop := w.heap[b]? = some (.cells #[.int .i64 2, .int .u64 (word p 0), .int .u64 (word p 1), .int .u64 (word p 2), .int .u64 (word p 3), .slice none 0 0] TN (0, 0))
theorem NodB.lt {w : World} {b : Nat} {p : Nat → Bool} (h : NodB w b p) : b < w.heap.size := lt_of_block h
theorem NodB.cell {w : World} {b : Nat} {p : Nat → Bool} (h : NodB w b p) {i : Nat} (hi : i < 4) : w.cell? ⟨b, 1 + i, none⟩ = some (.int .u64 (word p i)) := by
  rw [cell_of_row w b _ _ _ _ h]
  have : i = 0 ∨ i = 1 ∨ i = 2 ∨ i = 3 := by omega
  rcases this with rfl | rfl | rfl | rfl <;> rfl
theorem NodB.fz {w : World} {b : Nat} {p : Nat → Bool} (h : NodB w b p) (i : Nat) : w.frozen? ⟨b, i, none⟩ = false := frozen_of_row w b i _ _ h
theorem NodB.put {w : World} {b : Nat} {p q : Nat → Bool} (h : NodB w b p) {i : Nat} (hi : i < 4) (n : Int) (hn : n = word q i) (ho : ∀ j, j ≠ i → word p j = word q j) : NodB (w.setCell ⟨b, 1 + i, none⟩ (.int .u64 n)) b q := by
  have := heap_setCell_same w b (1 + i) _ _ (.int .u64 n) h
  unfold NodB; rw [this]
  have hi' : i = 0 ∨ i = 1 ∨ i = 2 ∨ i = 3 := by omega
  rcases hi' with rfl | rfl | rfl | rfl
  · simp [hn, ho 1 (by decide), ho 2 (by decide), ho 3 (by decide)]
  · simp [hn, ho 0 (by decide), ho 2 (by decide), ho 3 (by decide)]
  · simp [hn, ho 0 (by decide), ho 1 (by decide), ho 3 (by decide)]
  · simp [hn, ho 0 (by decide), ho 1 (by decide), ho 2 (by decide)]
theorem NodB.on {w w' : World} {b : Nat} {p : Nat → Bool} (h : NodB w b p) (hb : Below w.heap.size w w') : NodB w' b p := (hb.block b h.lt).trans h
theorem NodB.eqv {w : World} {b : Nat} {p q : Nat → Bool} (h : NodB w b p) (e : ∀ k, k < 256 → p k = q k) : NodB w b q := by
  unfold NodB at h ⊢
  rw [← word_congr (p := p) (q := q) (i := 0) fun k hk => e _ (by omega), ← word_congr (p := p) (q := q) (i := 1) fun k hk => e _ (by omega), ← word_congr (p := p) (q := q) (i := 2) fun k hk => e _ (by omega), ← word_congr (p := p) (q := q) (i := 3) fun k hk => e _ (by omega)]
  exact h

theorem roneV (c : Nat) (i : Nat) (h : c / 64 = i) (hi : i < 4) : nodeV (one c) (.slice none 0 0) = .agg #[.int .i64 2, .int .u64 (if i = 0 then IntKind.u64.wrap (2 ^ (c % 64)) else 0), .int .u64 (if i = 1 then IntKind.u64.wrap (2 ^ (c % 64)) else 0), .int .u64 (if i = 2 then IntKind.u64.wrap (2 ^ (c % 64)) else 0), .int .u64 (if i = 3 then IntKind.u64.wrap (2 ^ (c % 64)) else 0), .slice none 0 0] := oneV c i h hi

set_option maxRecDepth 100000 in
theorem rone_any (c : Nat) (hc : c < 256) (w : World) :
    Calls Tryd.prog 41 #[.int .u8 c] w fun e w' => e = .returned (nodeV (one c) (.slice none 0 0)) ∧ Below w.heap.size w w' := by
  have hc' : (c : Int) < 256 := by omega
  have h2 : (0 : Int) ≤ (c : Int) % 64 := by omega
  have h3 : (c : Int) % 64 < 64 := by omega
  have h : c / 64 = 0 ∨ c / 64 = 1 ∨ c / 64 = 2 ∨ c / 64 = 3 := by omega
  have hb : ∀ x y, Below w.heap.size w ((w.alloc (.cells x TN)).alloc (.cells y TN)) := fun x y => ((Below.refl _ _).alloc (Nat.le_refl _) _).alloc (by simp) _
  rcases h with h | h | h | h
  · rw [oneV c 0 h (by decide)]
    have HB := Lib.hid hb; clear hb
    have h' : (c : Int) / 64 = 0 := by omega
    clear h
    go_enter Tryd.func41, Tryd.ntmps41
    go_wp2_with fail
    exact bodyPost_ret (v := .agg #[.int .i64 2, .int .u64 (IntKind.u64.wrap (2 ^ (c % 64))), .int .u64 0, .int .u64 0, .int .u64 0, .slice none 0 0]) (by simp [results, Tryd.results41, go_sem]) rfl ⟨by simp, HB.out _ _⟩
  · rw [oneV c 1 h (by decide)]
    have HB := Lib.hid hb; clear hb
    have h' : (c : Int) / 64 = 1 := by omega
    clear h
    go_enter Tryd.func41, Tryd.ntmps41
    go_wp2_with fail
    exact bodyPost_ret (v := .agg #[.int .i64 2, .int .u64 0, .int .u64 (IntKind.u64.wrap (2 ^ (c % 64))), .int .u64 0, .int .u64 0, .slice none 0 0]) (by simp [results, Tryd.results41, go_sem]) rfl ⟨by simp, HB.out _ _⟩
  · rw [oneV c 2 h (by decide)]
    have HB := Lib.hid hb; clear hb
    have h' : (c : Int) / 64 = 2 := by omega
    clear h
    go_enter Tryd.func41, Tryd.ntmps41
    go_wp2_with fail
    exact bodyPost_ret (v := .agg #[.int .i64 2, .int .u64 0, .int .u64 0, .int .u64 (IntKind.u64.wrap (2 ^ (c % 64))), .int .u64 0, .slice none 0 0]) (by simp [results, Tryd.results41, go_sem]) rfl ⟨by simp, HB.out _ _⟩
  · rw [oneV c 3 h (by decide)]
    have HB := Lib.hid hb; clear hb
    have h' : (c : Int) / 64 = 3 := by omega
    clear h
    go_enter Tryd.func41, Tryd.ntmps41
    go_wp2_with fail
    exact bodyPost_ret (v := .agg #[.int .i64 2, .int .u64 0, .int .u64 0, .int .u64 0, .int .u64 (IntKind.u64.wrap (2 ^ (c % 64))), .slice none 0 0]) (by simp [results, Tryd.results41, go_sem]) rfl ⟨by simp, HB.out _ _⟩

set_option maxRecDepth 100000 in
theorem rover_any (op : Nat) (B : Nat) (v : Value) (ps : List (T × Value)) (w : World) (hk : Kids w B v ps) (hl : ps.length ≤ 1000000) :
    Calls Tryd.prog 42 #[.int .i64 op, v] w fun e w' => ∃ K, e = .returned (nodeV (joined op (ps.map (·.1))) K) ∧ IsT w' (fun b => B ≤ b) K (joined op (ps.map (·.1))) ∧ Below w.heap.size w w' := by
  match ps, hk, hl with
  | [], hk, hl =>
    have hb := below_new w (.cells #[.int .i64 1, .int .u64 0, .int .u64 0, .int .u64 0, .int .u64 0, .slice none 0 0] TN)
    simp only [List.map_nil, joined, nodeV_op]
    rcases hk.own.2 with ⟨rfl, _⟩ | ⟨g, cap, cur, rfl, _⟩
    all_goals
      have HB := Lib.hid hb; clear hb hk
      go_enter Tryd.func42, Tryd.ntmps42
      go_wp2_with fail
      exact bodyPost_ret (v := .agg #[.int .i64 1, .int .u64 0, .int .u64 0, .int .u64 0, .int .u64 0, .slice none 0 0]) (by simp [results, Tryd.results42, go_sem]) rfl ⟨_, rfl, IsT.nil _ _, HB.out⟩
  | [q], hk, hl =>
    obtain ⟨t, K⟩ := q
    obtain ⟨Ak, ck, hKs⟩ : ∃ Ak ck, K = .slice Ak t.kids.length ck := (hk.each (t, K) (by simp)).slice
    subst hKs
    obtain ⟨g, cap, rfl, hgB, hgl⟩ := hk.own.form (by simp)
    have hc := fun j u h => hk.own.cells (g := g) rfl j u h
    have hb := below_new w (.cells (nodeC t (.slice Ak t.kids.length ck)).toArray TN)
    have hT : IsT (w.alloc (.cells (nodeC t (.slice Ak t.kids.length ck)).toArray TN)) (fun b => B ≤ b) (.slice Ak t.kids.length ck) t := ((hk.each (t, (.slice Ak t.kids.length ck)) (by simp)).imp fun b h _ => h.1).on hb
    have HT := Lib.hid hT; have HB := Lib.hid hb
    simp only [rowC, List.flatMap_cons, List.flatMap_nil, List.append_nil] at hc
    have k0 := hc 0 _ rfl; have k1 := hc 1 _ rfl; have k2 := hc 2 _ rfl; have k3 := hc 3 _ rfl; have k4 := hc 4 _ rfl; have k5 := hc 5 _ rfl
    simp only [Addr.add, if_true, Nat.reduceEqDiff, if_false, Nat.zero_add, Nat.add_zero] at k0 k1 k2 k3 k4 k5
    simp only [nodeC, nodeV] at HT HB ⊢
    clear hc hb hT hk
    simp only [List.map_cons, List.map_nil, joined, List.length_singleton]
    generalize word t.set 0 = x0 at *
    generalize word t.set 1 = x1 at *
    generalize word t.set 2 = x2 at *
    generalize word t.set 3 = x3 at *
    generalize t.op = xo at *
    go_enter Tryd.func42, Tryd.ntmps42
    go_wp2_with fail
    exact bodyPost_ret (v := .agg #[.int .i64 xo, .int .u64 x0, .int .u64 x1, .int .u64 x2, .int .u64 x3, .slice Ak t.kids.length ck]) (by simp [results, Tryd.results42, go_sem]) rfl ⟨_, rfl, HT.out, HB.out⟩
  | q :: r :: l, hk, hl =>
    obtain ⟨g, cap, rfl, hgB, hgl⟩ := hk.own.form (by simp)
    have hb := below_new w (.cells #[.int .i64 op, .int .u64 0, .int .u64 0, .int .u64 0, .int .u64 0, .slice (some ⟨g, 0, none⟩) (q :: r :: l).length cap] TN)
    have hT := (hk.node op noSet).on hb
    simp only [List.map_cons, joined, nodeV_op] at hT ⊢
    have HT := Lib.hid hT; have HB := Lib.hid hb
    have hl2 : (2 : Int) ≤ ((q :: r :: l).length : Int) := by simp; omega
    have hl3 : ((q :: r :: l).length : Int) ≤ 1000000 := by omega
    have hl4 : (((q :: r :: l).length : Int) == 0) = false := by rw [beq_eq_false_iff_ne]; omega
    have hl5 : (((q :: r :: l).length : Int) == 1) = false := by rw [beq_eq_false_iff_ne]; omega
    clear hT hb hk hl
    generalize (q :: r :: l).length = n at *
    go_enter Tryd.func42, Tryd.ntmps42
    go_wp2_with fail
    exact bodyPost_ret (v := .agg #[.int .i64 op, .int .u64 0, .int .u64 0, .int .u64 0, .int .u64 0, .slice (some ⟨g, 0, none⟩) n cap]) (by simp [results, Tryd.results42, go_sem]) rfl ⟨_, rfl, HT.out, HB.out⟩

theorem below_rowB (B : Nat) (w : World) (b : Nat) (cs : Array Value) (h : B ≤ b) : Below B w (w.setRow b cs) := ⟨rfl, rfl, rfl, by simp, fun k hk => setRow_other _ _ _ _ (by omega)⟩

/-- what All and class hold -/
structure LfS (w wr : World) (p : Nat → Bool) : Prop where
  res : wr.heap[w.heap.size]? = some (.cells zN TN (0, 0))
  set : NodB wr (w.heap.size + 1) p
  up : Below w.heap.size w wr
theorem LfS.put {w wr : World} {p q : Nat → Bool} (h : LfS w wr p) {i : Nat} (hi : i < 4) (n : Int) (hn : n = word q i) (ho : ∀ j, j ≠ i → word p j = word q j) : LfS w (wr.setCell ⟨w.heap.size + 1, 1 + i, none⟩ (.int .u64 n)) q :=
  ⟨(Below.heap_setCell _ _ _ _ (by simp)).trans h.res, h.set.put hi n hn ho, h.up.setCell (by simp) _⟩
theorem LfS.drew {w wr : World} {p : Nat → Bool} (h : LfS w wr p) : LfS w wr.drew p := ⟨h.res, h.set, h.up.drew⟩
theorem LfS.on {w wr w' : World} {p : Nat → Bool} (h : LfS w wr p) (hb : Below wr.heap.size wr w') : LfS w w' p :=
  ⟨(hb.block _ (lt_of_block h.res)).trans h.res, h.set.on hb, below_then h.up hb (Nat.le_refl _)⟩
theorem LfS.eqv {w wr : World} {p q : Nat → Bool} (h : LfS w wr p) (e : ∀ k, k < 256 → p k = q k) : LfS w wr q := ⟨h.res, h.set.eqv e, h.up⟩
def allW (w : World) : World := (w.alloc (.cells zN TN)).alloc (.cells #[.int .i64 2, .int .u64 0, .int .u64 0, .int .u64 0, .int .u64 0, .slice none 0 0] TN)
theorem allW_facts (w : World) : LfS w (allW w) noSet := by
  have b1 := below_new w (.cells zN TN)
  have b2 := below_new (w.alloc (.cells zN TN)) (.cells #[.int .i64 2, .int .u64 0, .int .u64 0, .int .u64 0, .int .u64 0, .slice none 0 0] TN)
  have h1 := heap_alloc_new w (.cells zN TN)
  have h2 := heap_alloc_new (w.alloc (.cells zN TN)) (.cells #[.int .i64 2, .int .u64 0, .int .u64 0, .int .u64 0, .int .u64 0, .slice none 0 0] TN)
  simp only [World.size_alloc] at b2 h2
  exact ⟨(b2.block _ (by omega)).trans h1, by unfold NodB; rw [word_none, word_none, word_none, word_none]; exact h2, b1.trans (b2.mono (by omega))⟩

theorem info_nodeS : (Tryd.prog.info? TN).map (·.size) = some 6 := by kernel_rfl

set_option maxRecDepth 100000 in
set_option maxHeartbeats 4000000 in
theorem rall_any (w : World) : Calls Tryd.prog 43 #[] w fun e w' => e = .returned (nodeV every (.slice none 0 0)) ∧ Below w.heap.size w w' := by
  have H0 := Lib.hid (allW_facts w)
  go_enter Tryd.func43, Tryd.ntmps43
  go_wp2_with fail
  change Code.wp _ _ _ _ (allW w)
  generalize allW w = W0 at *
  go_loopg [2] 257 (fun k v2 wr => ∃ x : Nat, v2 = .int .i64 x ∧ x ≤ 256 ∧ 256 - x < k ∧ Hid (LfS w wr (upTo noSet 0 x)))
  case atStart => exact ⟨0, rfl, by omega, by omega, Lib.hid (by rw [upTo_zero]; exact H0.out)⟩
  case round =>
    clear H0
    obtain ⟨x, rfl, hx, hxk, HA⟩ := hrel
    by_cases hxl : x < 256
    · have hx256 : (x : Int) < 256 := by omega
      have e0 : (0 : Int) ≤ x := by omega
      have e1 : (0 : Int) ≤ (x : Int) / 64 := by omega
      have e2 : (x : Int) / 64 < 4 := by omega
      have e3 : (0 : Int) ≤ (x : Int) % 64 := by omega
      have e4 : (x : Int) % 64 < 64 := by omega
      have cx := HA.out.set.cell (i := x / 64) (by omega)
      have fx := HA.out.set.fz (1 + x / 64)
      have ho := or_word (upTo noSet 0 x) (x / 64) x rfl
      go_wp2_with fail
      go_region
      all_goals
        go_wp2_with fail
        go_roundg (gk - 1)
        case measure => omega
        case rel => exact ⟨x + 1, by go_num, by omega, by omega, Lib.hid (by rw [← upTo_succ noSet 0 x (by omega)]; exact (HA.out.put (i := x / 64) (by omega) _ rfl (fun j hj => word_addK_ne _ _ _ (Ne.symm hj))).drew)⟩
    · obtain rfl : x = 256 := by omega
      have HF : Hid (LfS w wr (fun _ => true)) := Lib.hid (HA.out.eqv fun k hk => by simp [upTo, hk])
      clear HA
      go_wp2_with (first | (refine wpList_load_row rfl TN (.tmp 1) rfl (w.heap.size + 1) rfl TN _ (0, 0) _ HF.out.set Tryd.underlying34 rfl (by kernel_rfl) ?_) | (refine wpList_store_row rfl TN (.tmp 0) (.tmp 19) rfl w.heap.size _ rfl rfl TN zN HF.out.res (by kernel_rfl) rfl (by simp [Value.oneCell']) ?_))
      exact bodyPost_ret (results_cell_row rfl _ _ w.heap.size TN _ (0, 0) _ rfl (setRow_heap _ _ _ _ _ _ HF.out.res) Tryd.underlying34 rfl (by kernel_rfl)) rfl ⟨rfl, HF.out.up.trans (below_rowB _ _ _ _ (Nat.le_refl _))⟩
end Go.Proofs.YtpiflikblpfgoaaDoor
