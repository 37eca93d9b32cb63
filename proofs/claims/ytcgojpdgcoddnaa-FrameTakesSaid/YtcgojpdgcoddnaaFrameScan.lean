/- frame.Scan: all frames that s begins with, and where the last one ends. -/
import Derived.RangeFuncBox
import Derived.Maps.AppendAt
import Derived.Test.YtcgojpdgcoddnaaFrameIter
namespace Go.Proofs.Ytcgojpdgcoddnaa
open Go.RowKit Go.Shelf

attribute [local go_sem] Oper.semAt_some

namespace FM
/-- where the last frame ends -/
def good (l : List (Nat × List UInt8)) : Nat := match l.getLast? with
  | some x => x.1 + 8 + x.2.length + 4
  | none => 0
theorem good_snoc (l : List (Nat × List UInt8)) (x : Nat × List UInt8) : good (l ++ [x]) = x.1 + 8 + x.2.length + 4 := by simp [good]
end FM

def goodI (l : List (Nat × List UInt8)) : Int := match l.getLast? with
  | some x => wrap64 (wrap64 (wrap64 ((x.1 : Int) + 8) + (bs x.2).size) + 4)
  | none => 0
theorem goodI_snoc (l : List (Nat × List UInt8)) (x : Nat × List UInt8) : goodI (l ++ [x]) = wrap64 (wrap64 (wrap64 ((x.1 : Int) + 8) + (bs x.2).size) + 4) := by simp [goodI]

theorem chunks_len (l : List UInt8) : ∀ (k a : Nat), (FM.chunks k l a).length ≤ k
  | 0, a => by simp [FM.chunks]
  | k + 1, a => by
    simp only [FM.chunks]
    split
    · have := chunks_len l k (a + (FM.take (l.drop a)).2.1)
      simp; omega
    · simp

theorem chunks_in (l : List UInt8) : ∀ (k a : Nat), a ≤ l.length → ∀ x ∈ FM.chunks k l a, x.1 + 12 + x.2.length ≤ l.length
  | 0, a, _, x, hx => by simp [FM.chunks] at hx
  | k + 1, a, ha, x, hx => by
    simp only [FM.chunks] at hx
    split at hx
    · rename_i h0
      obtain ⟨e1, e2⟩ := FM.take_ok _ h0
      rw [List.length_drop] at e2
      rcases List.mem_cons.1 hx with rfl | hx
      · show a + 12 + (FM.take (l.drop a)).1.length ≤ l.length
        omega
      · exact chunks_in l k _ (by omega) x hx
    · simp at hx

theorem wrap64_in (z : Int) (h : -9223372036854775808 ≤ z ∧ z ≤ 9223372036854775807) : wrap64 z = z := by unfold wrap64; omega

theorem goodI_eq (l : List (Nat × List UInt8)) (N : Nat) (hN : N ≤ 1099511627776) (h : ∀ x ∈ l, x.1 + 12 + x.2.length ≤ N) : goodI l = (FM.good l : Nat) := by
  simp only [goodI, FM.good]
  split
  · rename_i x hx
    have hm : x ∈ l := List.mem_of_getLast? hx
    have hb := h x hm
    rw [bs_size, wrap64_in ((x.1 : Int) + 8) (by omega), wrap64_in (((x.1 : Int) + 8) + x.2.length) (by omega), wrap64_in _ (by omega)]
    omega
  · rfl

theorem results_two {fn : Func} (h : fn.results = #[.cell 2 32, .cell 3 3]) (tmps : Array Value) (W : World) (p1 p2 : Nat) (v u : Value) (h1 : tmps.getD 2 undef = .pointer (some ⟨p1, 0, none⟩)) (h2 : tmps.getD 3 undef = .pointer (some ⟨p2, 0, none⟩))
    (c1 : W.cell? ⟨p1, 0, none⟩ = some v) (c2 : W.cell? ⟨p2, 0, none⟩ = some u) : (results fn tmps).run Try.prog W = .ok (.tuple #[v, u]) W := by
  have h1' : tmps[2]?.getD undef = .pointer (some ⟨p1, 0, none⟩) := by simpa using h1
  have h2' : tmps[3]?.getD undef = .pointer (some ⟨p2, 0, none⟩) := by simpa using h2
  simp only [results, h]
  simp [go_sem, h1', h2', asAddr, loadVar, isAgg, run_underlying Try.underlying32, run_underlying Try.underlying3, c1, c2]

def pays (l : List (Nat × List UInt8)) : List ByteArray := l.map fun x => bs x.2

set_option maxRecDepth 100000 in
set_option maxHeartbeats 8000000 in
theorem scan_in (n : Nat) (hn : 3 ≤ n) (s : ByteArray) (hs : s.size ≤ 1099511627776) (w : World) :
    CallsIn Fence.wide n Try.prog 12 #[.string s] w fun e W' => ∃ v, e = .returned (.tuple #[v, .int .i64 (FM.good (FM.chunks (s.size + 1) s.data.toList 0) : Nat)]) ∧
      OwnS W' w.heap.size v (pays (FM.chunks (s.size + 1) s.data.toList 0)) ∧ Below w.heap.size w W' := by
  have h1 : 1 ≤ n := by omega
  obtain ⟨i0, hi0, hz0, hz1, hz2⟩ := info_string
  refine callsIn_of_wp_marks Try.func12 rfl trivial ?_ rfl
  simp only [Try.ntmps12, List.size_toArray, List.length_cons, List.length_nil, Nat.reduceAdd, Nat.reduceSub, Array.replicate_succ, Array.replicate_zero, List.push_toArray, List.append_toArray, List.nil_append, List.cons_append]
  gi_wp2_with fail
  refine ⟨trivial, (callsIn_wide.2 (all_any s _)).mono ?_⟩
  rintro e w' ⟨rfl, rfl⟩
  gi_wp2_with fail
  have bP : Boxed (((w.alloc (.cells #[.slice none 0 0] 32)).alloc (.cells #[.int .i64 0] 3)).alloc (.cells #[.string s] 9)) w.heap.size 32 (.slice none 0 0) := ((Boxed.new w _ _).alloc _).alloc _
  have bG : Boxed (((w.alloc (.cells #[.slice none 0 0] 32)).alloc (.cells #[.int .i64 0] 3)).alloc (.cells #[.string s] 9)) (w.heap.size + 1) 3 (.int .i64 0) := by
    have := (Boxed.new (w.alloc (.cells #[.slice none 0 0] 32)) 3 (.int .i64 0)).alloc (.cells #[.string s] 9)
    rwa [World.size_alloc] at this
  have bS : Boxed (((w.alloc (.cells #[.slice none 0 0] 32)).alloc (.cells #[.int .i64 0] 3)).alloc (.cells #[.string s] 9)) (w.heap.size + 1 + 1) 9 (.string s) := by
    have := Boxed.new ((w.alloc (.cells #[.slice none 0 0] 32)).alloc (.cells #[.int .i64 0] 3)) 9 (.string s)
    rwa [World.size_alloc, World.size_alloc] at this
  have hB0 : Below w.heap.size w (((w.alloc (.cells #[.slice none 0 0] 32)).alloc (.cells #[.int .i64 0] 3)).alloc (.cells #[.string s] 9)) := (((Below.refl _ w).alloc (Nat.le_refl _) _).alloc (by simp) _).alloc (by simp; omega) _
  have hsz : (((w.alloc (.cells #[.slice none 0 0] 32)).alloc (.cells #[.int .i64 0] 3)).alloc (.cells #[.string s] 9)).heap.size = w.heap.size + 3 := by simp
  generalize (((w.alloc (.cells #[.slice none 0 0] 32)).alloc (.cells #[.int .i64 0] 3)).alloc (.cells #[.string s] 9)) = W0 at bP bG bS hB0 hsz ⊢
  refine wpIn_rangeFunc_ownG rfl h1 (gf := 24) (lb := #[.pointer (some ⟨w.heap.size + 1 + 1, 0, none⟩)]) rfl trivial (enters_of Try.func24 (by kernel_rfl) rfl)
    (all_stops (n - 1) (by omega) (w.heap.size + 1 + 1) s (by omega) W0 bS.cell) KBox.trans (KBox.put (by omega)) (Below.refl _ _) (fun _ => rfl)
    (fun pre W => (∃ v, Boxed W w.heap.size 32 v ∧ W.ownsRow (w.heap.size + 3) 9 1 v (pays pre).length (strs (pays pre)) ∧ True) ∧ (Boxed W (w.heap.size + 1) 3 (.int .i64 (goodI pre)) ∧ Below w.heap.size W0 W))
    (fun _ _ _ => False)
    (OwnFrom.and (Own.from (holdsRow_own (w.heap.size + 3) w.heap.size 32 9 1 (fun pre => (pays pre).length) (fun pre => strs (pays pre)) (fun _ _ => True)) _) (OwnFrom.and (Own.from (boxed_own (w.heap.size + 1) 3 (fun pre => .int .i64 (goodI pre))) _) (ownFrom_below (w₀ := W0) (by omega) (by omega))))
    (fun _ _ _ _ _ hs _ _ => hs)
    ⟨⟨_, bP, World.ownsRow_nil _ _ _ _, trivial⟩, bG, Below.refl _ _⟩
    (fun x => { tmps := #[.string s, undef, .pointer (some ⟨w.heap.size, 0, none⟩), .pointer (some ⟨w.heap.size + 1, 0, none⟩), .int .i64 x.1, .string (bs x.2), .string s, .func (.func 24) #[] #[.pointer (some ⟨w.heap.size + 1 + 1, 0, none⟩)], .int .i64 x.1, .string (bs x.2), undef, undef, undef, undef, undef, undef, undef, undef, undef, undef, undef, undef], defers := [] }) ?assign ?body ?done ?stop
  case assign =>
    intro l x W K hK
    gi_wp2
    exact hK
  case body =>
    rintro l pre x W ⟨⟨v, hv, hrow, _⟩, hg, hB⟩ hlt
    have hc := hv.cell
    have hcl := chunks_len s.data.toList (s.size + 1) 0
    have hpl : Hid ((pays pre).length = pre.length) := Lib.hid (by simp [pays])
    have hWs := hB.size
    have hBn : w.heap.size + 1 + 1 < W.heap.size := by omega
    have hnb : some (w.heap.size + 1 + 1) ≠ v.ownBlock := by
      intro e
      have := (hrow.lt _ e.symm).1
      omega
    have hnp : w.heap.size ≠ w.heap.size + 1 := by omega
    gi_wp2_with (gi_at_builtin; refine wpListIn_append_own _ rfl _ _ 32 rfl (w.heap.size + 3) 9 i0 (.string ByteArray.empty) 1 16 Try.underlying32 hi0 hz0 hz1 hz2 rfl (by decide) _ _ _ rfl (hrow.alloc _) ⟨W.heap.size, 0, none⟩ 1 1 [.string (bs x.2)] rfl rfl (cell_one_new _ _ _) (by simp [Value.oneCell']) (by rw [hpl.out]; unfold maxLen; omega) (by rw [hpl.out]; omega) (by simp; omega) ?_; intro v' w1 hown' hgrow _; obtain ⟨g', cap', rfl⟩ := ownsRow_succ hown'; have hv1 := (hv.alloc _).kept hgrow (hv.not_row (by decide) hrow); have hg1 := (hg.alloc _).kept hgrow (hg.not_row (by decide) hrow); have hc1 := hv1.cell; have hf1 := hv1.frozen; have hcg := hg1.cell; have hfg := hg1.frozen)
    have hgr : (W.alloc (.cells #[.string (bs x.2)] 9)).grownBy w1 v.ownBlock := hgrow
    have hS1 : w1.heap[w.heap.size + 1 + 1]? = W.heap[w.heap.size + 1 + 1]? := (hgr.block _ (by simp; omega) hnb).trans (Below.heap_alloc W _ _ hBn)
    have hK1 : KeepsOthers W w1 := (KeepsOthers.alloc W _).trans (KeepsOthers.of_grownBy hgr fun j o ej hj => by
      rcases (hrow.alloc (.cells #[.string (bs x.2)] 9)).2 with ⟨rfl, _⟩ | ⟨g, cap, cur, rfl, _, hgb, _⟩
      · simp [Value.ownBlock] at ej
      · obtain rfl : g = j := by simpa [Value.ownBlock] using ej
        rw [hgb] at hj; cases hj; rfl)
    have hBw : Below w.heap.size W w1 := ((Below.refl w.heap.size W).alloc (by omega) _).grown hgr (by simp; omega) (fun j ej => by have := (hrow.lt _ ej).1; omega)
    have hv2 := hv1.set (.slice (some ⟨g', 0, none⟩) ((pays pre).length + 1) cap')
    have hg2 := hg1.other hnp.symm (.slice (some ⟨g', 0, none⟩) ((pays pre).length + 1) cap')
    have hr2 := hown'.kept (grownBy_setCell' w1 w.heap.size (.slice (some ⟨g', 0, none⟩) ((pays pre).length + 1) cap')) (.inr (hv1.not_row (by decide) hown').symm)
    have hv3 := hv2.other hnp (.int .i64 (wrap64 (wrap64 (wrap64 ((x.1 : Int) + 8) + (bs x.2).size) + 4)))
    have hg3 := hg2.set (.int .i64 (wrap64 (wrap64 (wrap64 ((x.1 : Int) + 8) + (bs x.2).size) + 4)))
    have hr3 := hr2.kept (grownBy_setCell' _ (w.heap.size + 1) (.int .i64 (wrap64 (wrap64 (wrap64 ((x.1 : Int) + 8) + (bs x.2).size) + 4)))) (.inr (hg2.not_row (by decide) hr2).symm)
    have ep : pays (pre ++ [x]) = pays pre ++ [bs x.2] := by simp [pays]
    have es : strs (pays pre ++ [bs x.2]) = strs (pays pre) ++ [.string (bs x.2)] := by simp [strs]
    refine ⟨((hK1.trans (KeepsOthers.setCell _ _ _)).trans (KeepsOthers.setCell _ _ _)).from _, ⟨?_, ?_⟩, ⟨_, hv3, ?_, trivial⟩, by rw [goodI_snoc]; exact hg3, hB.trans ((hBw.setCell (p := ⟨w.heap.size, 0, none⟩) (Nat.le_refl _) _).setCell (p := ⟨w.heap.size + 1, 0, none⟩) (by show w.heap.size ≤ w.heap.size + 1; omega) _)⟩
    · have := hBw.size
      simpa [World.setCell] using this
    · rw [Below.heap_setCell _ _ _ _ (by show w.heap.size + 1 + 1 ≠ w.heap.size + 1; omega), Below.heap_setCell _ _ _ _ (by show w.heap.size + 1 + 1 ≠ w.heap.size; omega)]
      exact hS1
    · rw [ep, es, List.length_append]; exact hr3
  case done =>
    rintro D ys W hD rfl ⟨⟨v, hv, hrow, _⟩, hg, hB⟩ hK
    obtain ⟨A, c, rfl, ha⟩ := OwnS.arg (show OwnS W (w.heap.size + 3) v (pays (FM.chunks (s.size + 1) s.data.toList 0)) from hrow)
    have hc := hv.cell
    have hcg := hg.cell
    have hf := hv.frozen
    have hfg := hg.frozen
    gi_wp2_with fail
    gi_region
    gi_wp2_with fail
    have hDn1 : D ≠ w.heap.size := by omega
    have hDn2 : D ≠ w.heap.size + 1 := by omega
    have hv2 := (hv.set (.slice A (pays (FM.chunks (s.size + 1) s.data.toList 0)).length c)).other (show w.heap.size ≠ w.heap.size + 1 by omega) (.int .i64 (goodI (FM.chunks (s.size + 1) s.data.toList 0)))
    have hg2 := (hg.other (show w.heap.size + 1 ≠ w.heap.size by omega) (.slice A (pays (FM.chunks (s.size + 1) s.data.toList 0)).length c)).set (.int .i64 (goodI (FM.chunks (s.size + 1) s.data.toList 0)))
    have hr1 := World.ownsRow.kept hrow (grownBy_setCell' W w.heap.size (.slice A (pays (FM.chunks (s.size + 1) s.data.toList 0)).length c)) (.inr (hv.not_row (by decide) hrow).symm)
    have hr2 := hr1.kept (grownBy_setCell' _ (w.heap.size + 1) (.int .i64 (goodI (FM.chunks (s.size + 1) s.data.toList 0)))) (.inr ((hg.other (show w.heap.size + 1 ≠ w.heap.size by omega) (.slice A (pays (FM.chunks (s.size + 1) s.data.toList 0)).length c)).not_row (by decide) hr1).symm)
    have hB2 : Below w.heap.size w ((W.setCell ⟨w.heap.size, 0, none⟩ (.slice A (pays (FM.chunks (s.size + 1) s.data.toList 0)).length c)).setCell ⟨w.heap.size + 1, 0, none⟩ (.int .i64 (goodI (FM.chunks (s.size + 1) s.data.toList 0)))).drew :=
      (((hB0.trans hB).setCell (p := ⟨w.heap.size, 0, none⟩) (Nat.le_refl _) _).setCell (p := ⟨w.heap.size + 1, 0, none⟩) (by show w.heap.size ≤ w.heap.size + 1; omega) _).drew
    have hK2 : ((W.setCell ⟨w.heap.size, 0, none⟩ (.slice A (pays (FM.chunks (s.size + 1) s.data.toList 0)).length c)).setCell ⟨w.heap.size + 1, 0, none⟩ (.int .i64 (goodI (FM.chunks (s.size + 1) s.data.toList 0)))).drew.heap[D]? = some (.deferred (some [])) := by
      show ((W.setCell ⟨w.heap.size, 0, none⟩ (.slice A (pays (FM.chunks (s.size + 1) s.data.toList 0)).length c)).setCell ⟨w.heap.size + 1, 0, none⟩ (.int .i64 (goodI (FM.chunks (s.size + 1) s.data.toList 0)))).heap[D]? = _
      rw [Below.heap_setCell _ _ _ _ hDn2, Below.heap_setCell _ _ _ _ hDn1]
      exact hK
    have hgoodI : goodI (FM.chunks (s.size + 1) s.data.toList 0) = (FM.good (FM.chunks (s.size + 1) s.data.toList 0) : Nat) :=
      goodI_eq _ s.size hs (chunks_in s.data.toList _ 0 (by omega))
    rw [hgoodI] at hv2 hg2 hr2 hB2 hK2 ⊢
    generalize ((W.setCell ⟨w.heap.size, 0, none⟩ (.slice A (pays (FM.chunks (s.size + 1) s.data.toList 0)).length c)).setCell ⟨w.heap.size + 1, 0, none⟩ (.int .i64 (FM.good (FM.chunks (s.size + 1) s.data.toList 0) : Nat))) = W9 at hv2 hg2 hr2 hB2 hK2 ⊢
    refine ⟨by simp, .inl ⟨_, _, rfl, run_takeDeferred hK2, ?_⟩⟩
    have hv3 : Boxed (W9.drew.putObj D (.deferred none)) w.heap.size 32 _ := Boxed.kept (W := W9.drew) hv2 (grownBy_putObj' W9.drew D _) (fun e => hDn1 (by cases e; rfl))
    have hg3 : Boxed (W9.drew.putObj D (.deferred none)) (w.heap.size + 1) 3 _ := Boxed.kept (W := W9.drew) hg2 (grownBy_putObj' W9.drew D _) (fun e => hDn2 (by cases e; rfl))
    have hr3 : OwnS (W9.drew.putObj D (.deferred none)) (w.heap.size + 3) _ (pays (FM.chunks (s.size + 1) s.data.toList 0)) := ownsRow_putObj (W := W9.drew) hr2 _ hK2 rfl
    refine ⟨_, results_two rfl _ _ w.heap.size (w.heap.size + 1) _ _ rfl rfl hv3.cell hg3.cell, _, rfl, ?_, hB2.trans (belowK_b (w := w) (Nat.le_refl _) W9.drew D _ _ (by omega) hK2 rfl rfl)⟩
    exact ⟨hr3.1, hr3.2.imp id (fun ⟨g, cap, cur, e, hb, r⟩ => ⟨g, cap, cur, e, by omega, r⟩)⟩
  case stop =>
    rintro D c pre W _ _ h _
    exact h.elim

/-- frame.Scan, at every text of at most 2^40 bytes -/
theorem scan_any (s : ByteArray) (hs : s.size ≤ 1099511627776) (w : World) :
    Calls Try.prog 12 #[.string s] w fun e w' => ∃ A c, e = .returned (.tuple #[.slice A (pays (FM.chunks (s.size + 1) s.data.toList 0)).length c, .int .i64 (FM.good (FM.chunks (s.size + 1) s.data.toList 0) : Nat)]) ∧
      SArg w' w'.heap.size A (pays (FM.chunks (s.size + 1) s.data.toList 0)) ∧ Below w.heap.size w w' := by
  refine (callsIn_wide.1 (scan_in 3 (Nat.le_refl _) s hs w)).mono ?_
  rintro e w' ⟨v, rfl, ho, hb⟩
  obtain ⟨A, c, rfl, ha⟩ := ho.arg
  exact ⟨A, c, rfl, ha, hb⟩

end Go.Proofs.Ytcgojpdgcoddnaa
