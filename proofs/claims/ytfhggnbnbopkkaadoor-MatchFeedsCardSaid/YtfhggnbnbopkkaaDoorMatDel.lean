/- slices.DeleteFunc over a row of tracks: the closure is any, and may turn anything but the row. -/
import Derived.Test.YtfhggnbnbopkkaaDoorRowKit
import Derived.Laws.OwnMore
import Derived.Laws.IdiomCopy
import Derived.Deep.Upon
import Derived.Deep.LoopGhost
import Derived.Deep.DeepCutAuto
import Derived.Below
import Derived.Lib.Hide
import Derived.ChangeKeysEq
namespace Go.Proofs.YtfhggnbnbopkkaaDoor
open Go.RowKit

set_option maxRecDepth 100000
abbrev TTr : TypeId := 83
abbrev TTs : TypeId := 80
/-- a track: where it began, the block of its run -/
structure Tr where
  p : Int
  r : Nat
def trC (x : Tr) : List Value := [.pointer (some ⟨x.r, 0, none⟩), .int .i64 x.p]
def trsC (l : List Tr) : List Value := l.flatMap trC
def trV (x : Tr) : Value := .agg #[.pointer (some ⟨x.r, 0, none⟩), .int .i64 x.p]
theorem trsC_len (l : List Tr) : (trsC l).length = l.length * 2 := by
  induction l with
  | nil => rfl
  | cons x l ih => rw [show trsC (x :: l) = trC x ++ trsC l from rfl, List.length_append, ih, List.length_cons]; simp [trC]; omega
theorem trsC_append (a b : List Tr) : trsC (a ++ b) = trsC a ++ trsC b := by simp [trsC]
theorem trsC_at : ∀ (l : List Tr) (k : Nat) (x : Tr), l[k]? = some x → (trsC l)[k * 2]? = some (.pointer (some ⟨x.r, 0, none⟩)) ∧ (trsC l)[k * 2 + 1]? = some (.int .i64 x.p)
  | [], k, x, h => by simp at h
  | y :: l, 0, x, h => by simp at h; subst h; exact ⟨rfl, rfl⟩
  | y :: l, k + 1, x, h => by
    obtain ⟨h1, h2⟩ := trsC_at l k x (by simpa using h)
    rw [show trsC (y :: l) = trC y ++ trsC l from rfl]
    refine ⟨?_, ?_⟩
    · rw [List.getElem?_append_right (by simp [trC]; omega), show (k + 1) * 2 - (trC y).length = k * 2 by simp [trC]; omega]; exact h1
    · rw [List.getElem?_append_right (by simp [trC]; omega), show (k + 1) * 2 + 1 - (trC y).length = k * 2 + 1 by simp [trC]; omega]; exact h2
/-- only block g, and new ones, are turned -/
structure Only (g : Nat) (w w' : World) : Prop where
  os : w'.os = w.os
  tape : w'.tape = w.tape
  output : w'.output = w.output
  size : w.heap.size ≤ w'.heap.size
  block : ∀ k, k < w.heap.size → k ≠ g → w'.heap[k]? = w.heap[k]?
/-- a row of tracks in block g: these, in so much room -/
structure RowT (w : World) (g : Nat) (l : List Tr) (n : Nat) (cur : Array Value) : Prop where
  blk : w.heap[g]? = some (.cells cur TTr (0, 0))
  room : n * 2 ≤ cur.size
  len : l.length = n
  at' : ∀ k x, l[k]? = some x → cur[k * 2]? = some (.pointer (some ⟨x.r, 0, none⟩)) ∧ cur[k * 2 + 1]? = some (.int .i64 x.p)
/-- what is asked of the closure, visited by the elements in their order -/
structure Visits (G : FuncId) (cap : Array Value) (g : Nat) (l : List Tr) (d : Nat → Bool) (J : Nat → World → Prop) : Prop where
  enter : ∀ args w, (callFunc G args).run Tryd.prog w = .ok (.enter G args) w
  call : ∀ k x w, l[k]? = some x → J k w → g < w.heap.size → Calls Tryd.prog G (#[trV x] ++ cap) w fun e w' => e = .returned (.bool (d k)) ∧ J (k + 1) w' ∧ (∀ (b : Nat) (cs : Array Value) (fr : Nat × Nat), w.heap[b]? = some (.cells cs TTr fr) → w'.heap[b]? = some (.cells cs TTr fr)) ∧ w.heap.size ≤ w'.heap.size
  turn : ∀ k w w', J k w → Only g w w' → J k w'
theorem RowT.on {w w' : World} {g n : Nat} {l : List Tr} {cur : Array Value} (h : RowT w g l n cur) (hg : w'.heap[g]? = w.heap[g]?) : RowT w' g l n cur := ⟨hg.trans h.blk, h.room, h.len, h.at'⟩
def IdxIs (g n : Nat) (d : Nat → Bool) (J : Nat → World → Prop) (w : World) (e : Ending) (w' : World) : Prop :=
  w'.heap[g]? = w.heap[g]? ∧ w.heap.size ≤ w'.heap.size ∧
    ((∃ i, i < n ∧ d i = true ∧ (∀ j, j < i → d j = false) ∧ e = .returned (.int .i64 i) ∧ J (i + 1) w') ∨ ((∀ j, j < n → d j = false) ∧ e = .returned (.int .i64 (-1)) ∧ J n w'))
set_option maxHeartbeats 4000000 in
theorem index_any (G : FuncId) (cap : Array Value) (g n c : Nat) (l : List Tr) (cur : Array Value) (d : Nat → Bool) (J : Nat → World → Prop) (hv : Visits G cap g l d J) (w : World) (hr : RowT w g l n cur) (h0 : J 0 w) (hn : n ≤ 10000000) :
    Calls Tryd.prog 59 #[.slice (some ⟨g, 0, none⟩) n c, .func (.func G) #[] cap] w (IdxIs g n d J w) := by
  have HV := Lib.hid hv
  have HR := Lib.hid hr
  have HJ := Lib.hid h0
  clear hv hr h0
  go_enter Tryd.func59, Tryd.ntmps59
  go_wp2_with fail
  go_loopg [8] (n + 1) (fun k v8 wr => ∃ i : Nat, v8 = .int .i64 i ∧ i ≤ n ∧ n + 1 - i ≤ k ∧ Hid (J i wr ∧ wr.heap[g]? = w.heap[g]? ∧ w.heap.size ≤ wr.heap.size ∧ ∀ j, j < i → d j = false))
  case atStart => exact ⟨0, rfl, by omega, by omega, Lib.hid ⟨HJ.out, rfl, Nat.le_refl _, fun j hj => by omega⟩⟩
  case round =>
    clear HJ
    obtain ⟨i, rfl, hi, hik, HX⟩ := hrel
    have hi0 : (0 : Int) ≤ i := by omega
    by_cases hlt : i < n
    · have hlt1 : (i : Int) < n := by omega
      have hRw := HR.out.on HX.out.2.1
      obtain ⟨x, hx⟩ : ∃ x, l[i]? = some x := ⟨_, List.getElem?_eq_getElem (by rw [HR.out.len]; exact hlt)⟩
      have hg := lt_of_block hRw.blk
      obtain ⟨a0, a1⟩ := hRw.at' i x hx
      have k0 : wr.cell? ⟨g, i * 2, none⟩ = some (.pointer (some ⟨x.r, 0, none⟩)) := by rw [cell_of_row _ _ _ _ _ _ hRw.blk]; exact a0
      have k1 : wr.cell? ⟨g, i * 2 + 1, none⟩ = some (.int .i64 x.p) := by rw [cell_of_row _ _ _ _ _ _ hRw.blk]; exact a1
      have HC := Lib.hid (HV.out.call i x wr hx HX.out.1 hg)
      have HBK := Lib.hid hRw.blk
      clear hRw a0 a1 hx hg
      unfold trV at HC
      go_wp2_with fail
      rw [HV.out.enter, Oper.upon_enter]
      refine HC.out.mono ?_
      rintro e w2 ⟨rfl, hJ2, hkk, hs2⟩
      have hg2 : w2.heap[g]? = wr.heap[g]? := (hkk g _ _ HBK.out).trans HBK.out.symm
      have HY := Lib.hid (And.intro hJ2 (And.intro (hg2.trans HX.out.2.1) (Nat.le_trans HX.out.2.2.1 hs2)))
      clear hJ2 hg2 hs2 hkk k0 k1 HC
      cases hd : d i with
      | true =>
        have HD := Lib.hid hd
        clear hd
        go_wp2_with fail
        go_ret
        exact ⟨HY.out.2.1, HY.out.2.2, .inl ⟨i, hlt, HD.out, HX.out.2.2.2, rfl, HY.out.1⟩⟩
      | false =>
        have HD := Lib.hid hd
        clear hd
        go_wp2_with fail
        go_roundg (gk - 1)
        case measure => omega
        case rel => exact ⟨i + 1, by go_num, by omega, by omega, Lib.hid ⟨HY.out.1, HY.out.2.1, HY.out.2.2, fun j hj => by
          by_cases e : j = i
          · subst e; exact HD.out
          · exact HX.out.2.2.2 j (by omega)⟩⟩
    · obtain rfl : n = i := by omega
      go_wp2_with fail
      go_ret
      exact ⟨HX.out.2.1, HX.out.2.2.1, .inr ⟨HX.out.2.2.2, rfl, HX.out.1⟩⟩
/-- what is kept of the first so many -/
def kp (d : Nat → Bool) (l : List Tr) : Nat → List Tr
  | 0 => []
  | k + 1 => kp d l k ++ (if d k then [] else (l[k]?).toList)
theorem kp_le (d : Nat → Bool) (l : List Tr) : ∀ k, (kp d l k).length ≤ k
  | 0 => Nat.le_refl _
  | k + 1 => by
    have h := kp_le d l k
    simp only [kp, List.length_append]
    split
    · simp; omega
    · cases l[k]? <;> simp <;> omega
theorem kp_all {d : Nat → Bool} {l : List Tr} : ∀ k, k ≤ l.length → (∀ j, j < k → d j = false) → kp d l k = l.take k
  | 0, _, _ => by simp [kp]
  | k + 1, hk, h => by
    have h1 := kp_all (d := d) (l := l) k (by omega) (fun j hj => h j (by omega))
    rw [kp, h1, h k (by omega), List.take_add_one]
    rfl
theorem kp_first {d : Nat → Bool} {l : List Tr} {i : Nat} (hi : i < l.length) (hd : d i = true) (h : ∀ j, j < i → d j = false) : kp d l (i + 1) = l.take i := by
  simp only [kp, hd, if_true, List.append_nil]
  exact kp_all i (by omega) h
theorem info_tr : (Tryd.prog.info? TTr).map (fun i => (i.zero, i.size, i.bytes)) = some (some (.agg #[.pointer none, .int .i64 0]), 2, 16) := by kernel_rfl
theorem only_refl (g : Nat) (w : World) : Only g w w := ⟨rfl, rfl, rfl, Nat.le_refl _, fun _ _ _ => rfl⟩
theorem Only.trans {g : Nat} {a b c : World} (h : Only g a b) (k : Only g b c) : Only g a c := ⟨k.os.trans h.os, k.tape.trans h.tape, k.output.trans h.output, Nat.le_trans h.size k.size, fun j hj hn => (k.block j (Nat.lt_of_lt_of_le hj h.size) hn).trans (h.block j hj hn)⟩
theorem only_alloc (g : Nat) (w : World) (o : Obj) : Only g w (w.alloc o) := ⟨rfl, rfl, rfl, by rw [World.size_alloc]; omega, fun k hk _ => heap_alloc_old w o hk⟩
theorem only_set (g i : Nat) (w : World) (v : Value) : Only g w (w.setCell ⟨g, i, none⟩ v) := ⟨rfl, rfl, rfl, by simp, fun k _ hk => heap_setCell_other w ⟨g, i, none⟩ k v hk⟩
theorem only_cells (g : Nat) : ∀ (vs : List Value) (o : Nat) (w : World), Only g w (w.setCells g o vs)
  | [], _, w => only_refl g w
  | v :: r, o, w => (only_set g o w v).trans (only_cells g r (o + 1) _)
theorem heap_cells (g : Nat) : ∀ (vs : List Value) (o : Nat) (w : World) (cur : Array Value), w.heap[g]? = some (.cells cur TTr (0, 0)) → ∃ cur', (w.setCells g o vs).heap[g]? = some (.cells cur' TTr (0, 0)) ∧ cur'.size = cur.size ∧ ∀ q, q < o → cur'[q]? = cur[q]?
  | [], _, w, cur, h => ⟨cur, h, rfl, fun _ _ => rfl⟩
  | v :: r, o, w, cur, h => by
    obtain ⟨cur', h1, h2, h3⟩ := heap_cells g r (o + 1) (w.setCell ⟨g, o, none⟩ v) _ (heap_setCell_same w g o cur TTr v h)
    refine ⟨cur', h1, by rw [h2, Array.size_setIfInBounds], fun q hq => ?_⟩
    rw [h3 q (by omega), Array.getElem?_setIfInBounds, if_neg (by omega)]
/-- clear of the end of a row of tracks -/
theorem clear_any (w : World) (g o n c : Nat) (cur : Array Value) (hg : w.heap[g]? = some (.cells cur TTr (0, 0))) (hn : 0 < n) (hr : o + n * 2 ≤ cur.size) :
    ∃ w' cur', (∀ ty, (Builtin.clear_ #[TTs] ty #[.slice (some ⟨g, o, none⟩) n c]).run Tryd.prog w = .ok (.tuple #[]) w') ∧ Only g w w' ∧ w'.heap[g]? = some (.cells cur' TTr (0, 0)) ∧ cur'.size = cur.size ∧ ∀ q, q < o → cur'[q]? = cur[q]? := by
  obtain ⟨i0, hi, hz0, hz1, hz2⟩ := info_parts info_tr
  have hzs : (Builtin.zeroCells (Value.agg #[.pointer none, .int .i64 0]).cells n).toList.length = n * 2 := by
    rw [Array.length_toList, size_zeroCells]; rfl
  have hone : ∀ v ∈ (Builtin.zeroCells (Value.agg #[.pointer none, .int .i64 0]).cells n).toList, v.oneCell' = true := fun v hv => by
    obtain ⟨k, _, hk⟩ := List.mem_iff_getElem.1 hv
    have h2 : (#[Value.pointer none, .int .i64 0] : Array Value)[k % 2]! = v := by rw [← hk]; simp [Builtin.zeroCells, Value.cells]
    rw [← h2]
    have : k % 2 = 0 ∨ k % 2 = 1 := by omega
    rcases this with e | e <;> rw [e] <;> rfl
  have hst := run_storeCells_cells (P := Tryd.prog) g o _ 0 w (fun j hj => by
    rw [hzs] at hj
    rw [Nat.add_zero, cell_of_row _ _ _ _ _ _ hg, Array.getElem?_eq_getElem (by omega)]; rfl) (fun j _ => frozen_of_row _ _ _ _ _ hg) hone
  rw [Nat.add_zero] at hst
  obtain ⟨cur', h1, h2, h3⟩ := heap_cells g (Builtin.zeroCells (Value.agg #[.pointer none, .int .i64 0]).cells n).toList o w cur hg
  refine ⟨_, cur', fun ty => ?_, only_cells g _ o w, h1, h2, h3⟩
  have hzv : ∀ w, (zeroValue TTr).run Tryd.prog w = .ok (.agg #[.pointer none, .int .i64 0]) w := fun w => by
    simp only [zeroValue, Sem.run_bind, run_typeInfo _ hi, Result.andThen_ok, hz0]
    rfl
  obtain ⟨m, rfl⟩ : ∃ m, n = m + 1 := ⟨n - 1, by omega⟩
  simp [Builtin.clear_, run_underlying Tryd.underlying80, hzv, hst]

/-- the row under way: so many kept at its head, those from j on as they were -/
structure Half (w : World) (g n : Nat) (l K : List Tr) (j : Nat) (cur : Array Value) : Prop where
  blk : w.heap[g]? = some (.cells cur TTr (0, 0))
  room : n * 2 ≤ cur.size
  head : ∀ k x, K[k]? = some x → cur[k * 2]? = some (.pointer (some ⟨x.r, 0, none⟩)) ∧ cur[k * 2 + 1]? = some (.int .i64 x.p)
  rest : ∀ k x, j ≤ k → l[k]? = some x → cur[k * 2]? = some (.pointer (some ⟨x.r, 0, none⟩)) ∧ cur[k * 2 + 1]? = some (.int .i64 x.p)
theorem Half.next {w : World} {g n : Nat} {l K : List Tr} {j : Nat} {cur : Array Value} (h : Half w g n l K j cur) : Half w g n l K (j + 1) cur := ⟨h.blk, h.room, h.head, fun k x hk => h.rest k x (by omega)⟩
/-- one more is kept -/
theorem Half.keep {w : World} {g n : Nat} {l K : List Tr} {j : Nat} {cur : Array Value} (h : Half w g n l K j cur) (hj : K.length < j) (hn : j < n) {x : Tr} :
    ∃ cur', Half ((w.setCell ⟨g, K.length * 2, none⟩ (.pointer (some ⟨x.r, 0, none⟩))).setCell ⟨g, K.length * 2 + 1, none⟩ (.int .i64 x.p)) g n l (K ++ [x]) (j + 1) cur' ∧ cur'.size = cur.size := by
  have h1 := heap_setCell_same w g (K.length * 2) cur TTr (.pointer (some ⟨x.r, 0, none⟩)) h.blk
  have h2 := heap_setCell_same _ g (K.length * 2 + 1) _ TTr (.int .i64 x.p) h1
  have hget : ∀ q, ((cur.setIfInBounds (K.length * 2) (.pointer (some ⟨x.r, 0, none⟩))).setIfInBounds (K.length * 2 + 1) (.int .i64 x.p))[q]? = if q = K.length * 2 then some (.pointer (some ⟨x.r, 0, none⟩)) else if q = K.length * 2 + 1 then some (.int .i64 x.p) else cur[q]? := fun q => by
    have hsz := h.room
    rw [Array.getElem?_setIfInBounds]
    by_cases e1 : K.length * 2 + 1 = q
    · rw [if_pos e1, if_pos (by rw [Array.size_setIfInBounds]; omega), if_neg (by omega), if_pos e1.symm]
    · rw [if_neg e1, Array.getElem?_setIfInBounds]
      by_cases e2 : K.length * 2 = q
      · rw [if_pos e2, if_pos (by omega), if_pos e2.symm]
      · rw [if_neg e2, if_neg (fun h => e2 h.symm), if_neg (fun h => e1 h.symm)]
  refine ⟨_, ⟨h2, by simp; exact h.room, fun k y hk => ?_, fun k y hk hy => ?_⟩, by simp⟩
  · rw [hget, hget]
    by_cases e : k < K.length
    · rw [List.getElem?_append_left e] at hk
      rw [if_neg (by omega), if_neg (by omega), if_neg (by omega), if_neg (by omega)]
      exact h.head k y hk
    · rw [List.getElem?_append_right (by omega)] at hk
      obtain ⟨hl, hx⟩ := List.getElem?_eq_some_iff.1 hk
      simp at hl hx
      obtain rfl : k = K.length := by omega
      subst hx
      rw [if_pos rfl, if_neg (by omega), if_pos rfl]
      exact ⟨rfl, rfl⟩
  · rw [hget, hget, if_neg (by omega), if_neg (by omega), if_neg (by omega), if_neg (by omega)]
    exact h.rest k y (by omega) hy
def DelIs (g n c : Nat) (l : List Tr) (d : Nat → Bool) (J : Nat → World → Prop) (sz : Nat) (w : World) (e : Ending) (w' : World) : Prop :=
  ∃ cur', e = .returned (.slice (some ⟨g, 0, none⟩) (kp d l n).length c) ∧ RowT w' g (kp d l n) (kp d l n).length cur' ∧ cur'.size = sz ∧ J n w' ∧ w.heap.size ≤ w'.heap.size
set_option maxHeartbeats 4000000 in
theorem delete_any (G : FuncId) (cap : Array Value) (g n c : Nat) (l : List Tr) (cur : Array Value) (d : Nat → Bool) (J : Nat → World → Prop) (hv : Visits G cap g l d J) (w : World) (hr : RowT w g l n cur) (h0 : J 0 w) (hn : n ≤ 10000000) (hc : n ≤ c) :
    Calls Tryd.prog 42 #[.slice (some ⟨g, 0, none⟩) n c, .func (.func G) #[] cap] w (DelIs g n c l d J cur.size w) := by
  have HI := Lib.hid (index_any G cap g n c l cur d J hv w hr h0 hn)
  have HV := Lib.hid hv
  have HR := Lib.hid hr
  clear hv hr h0
  go_enter Tryd.func42, Tryd.ntmps42
  go_wp2_with fail
  refine HI.out.mono ?_
  rintro e w1 ⟨hg1, hs1, (⟨i, hi, hdi, hbef, rfl, hJ1⟩ | ⟨hall, rfl, hJ1⟩)⟩
  · have HX0 := Lib.hid (And.intro hJ1 (And.intro (HR.out.on hg1) (And.intro hs1 (And.intro hdi hbef))))
    clear hJ1 hg1 hs1 hdi hbef HI
    have hi1 : ¬ (i : Int) = -1 := by omega
    go_wp2_with fail
    go_loopg [6, 5] (n + 1) (fun k v6 v5 wr => ∃ (j a : Nat) (cu : Array Value), v6 = .int .i64 j ∧ v5 = .int .i64 a ∧ j ≤ n ∧ n + 1 - j ≤ k ∧ a < j ∧ Hid (J j wr ∧ Half wr g n l (kp d l j) j cu ∧ cu.size = cur.size ∧ (kp d l j).length = a ∧ w.heap.size ≤ wr.heap.size))
    case atStart =>
      have hk := kp_first (d := d) (l := l) (i := i) (by rw [HR.out.len]; exact hi) HX0.out.2.2.2.1 HX0.out.2.2.2.2
      have hR := HX0.out.2.1
      refine ⟨i + 1, i, cur, by go_num, rfl, by omega, by omega, by omega, Lib.hid ⟨HX0.out.1, ⟨hR.blk, hR.room, fun k x hx => ?_, fun k x _ hx => hR.at' k x hx⟩, rfl, ?_, HX0.out.2.2.1⟩⟩
      · rw [hk, List.getElem?_take] at hx
        split at hx
        · exact hR.at' k x hx
        · cases hx
      · rw [hk, List.length_take, HR.out.len]; omega
    case round =>
      clear HX0
      obtain ⟨j, a, cu, rfl, rfl, hj, hjk, haj, HX⟩ := hrel
      have hj0 : (0 : Int) ≤ j := by omega
      by_cases hlt : j < n
      · have hlt1 : (j : Int) < n := by omega
        obtain ⟨x, hx⟩ : ∃ x, l[j]? = some x := ⟨_, List.getElem?_eq_getElem (by rw [HR.out.len]; exact hlt)⟩
        obtain ⟨b0, b1⟩ := HX.out.2.1.rest j x (Nat.le_refl _) hx
        have k0 : wr.cell? ⟨g, j * 2, none⟩ = some (.pointer (some ⟨x.r, 0, none⟩)) := by rw [cell_of_row _ _ _ _ _ _ HX.out.2.1.blk]; exact b0
        have k1 : wr.cell? ⟨g, j * 2 + 1, none⟩ = some (.int .i64 x.p) := by rw [cell_of_row _ _ _ _ _ _ HX.out.2.1.blk]; exact b1
        go_upto_region 8 with (fail)
        have hbx := heap_alloc_new wr (.cells #[.pointer (some ⟨x.r, 0, none⟩), .int .i64 x.p] TTr)
        have hOn := only_alloc g wr (.cells #[.pointer (some ⟨x.r, 0, none⟩), .int .i64 x.p] TTr)
        have hH := HX.out.2.1
        have hgl := lt_of_block hH.blk
        have HX1 := Lib.hid (And.intro (HV.out.turn j _ _ HX.out.1 hOn) (And.intro (Half.mk (w := wr.alloc (.cells #[.pointer (some ⟨x.r, 0, none⟩), .int .i64 x.p] TTr)) ((heap_alloc_old wr _ hgl).trans hH.blk) hH.room hH.head hH.rest) (And.intro hbx (Nat.le_trans HX.out.2.2.2.2 hOn.size))))
        have HXa := Lib.hid HX.out.2.2
        change Code.wp _ _ _ _ (wr.alloc (.cells #[.pointer (some ⟨x.r, 0, none⟩), .int .i64 x.p] TTr))
        clear HX hbx hOn hH hgl k0 k1 b0 b1
        generalize wr.alloc (.cells #[.pointer (some ⟨x.r, 0, none⟩), .int .i64 x.p] TTr) = W at *
        generalize wr.heap.size = bx at *
        have q0 : W.cell? ⟨bx, 0, none⟩ = some (.pointer (some ⟨x.r, 0, none⟩)) := by rw [cell_of_row _ _ 0 _ _ _ HX1.out.2.2.1]; rfl
        have q1 : W.cell? ⟨bx, 1, none⟩ = some (.int .i64 x.p) := by rw [cell_of_row _ _ 1 _ _ _ HX1.out.2.2.1]; rfl
        have HC := Lib.hid (HV.out.call j x W hx HX1.out.1 (lt_of_block HX1.out.2.1.blk))
        have HL := Lib.hid hx
        unfold trV at HC
        clear hx
        go_wp2_with fail
        rw [HV.out.enter, Oper.upon_enter]
        refine HC.out.mono ?_
        rintro e w3 ⟨rfl, hJ, hkk, hs⟩
        have hH := HX1.out.2.1
        have HX2 := Lib.hid (And.intro hJ (And.intro (Half.mk (w := w3) (hkk g _ _ hH.blk) hH.room hH.head hH.rest) (And.intro (hkk bx _ _ HX1.out.2.2.1) (Nat.le_trans HX1.out.2.2.2 hs))))
        clear hJ hkk hs hH HX1 HC q0 q1
        cases hd : d j with
        | true =>
          have hkp : kp d l (j + 1) = kp d l j := by simp [kp, hd]
          have HK := Lib.hid hkp
          clear hd hkp
          go_wp2_with fail
          go_roundg (gk - 1)
          case measure => omega
          case rel => exact ⟨j + 1, a, cu, by go_num, rfl, by omega, by omega, by omega, Lib.hid ⟨HX2.out.1, by rw [HK.out]; exact HX2.out.2.1.next, HXa.out.1, by rw [HK.out]; exact HXa.out.2.1, HX2.out.2.2.2⟩⟩
        | false =>
          have hkp : kp d l (j + 1) = kp d l j ++ [x] := by simp [kp, hd, HL.out]
          have HK := Lib.hid hkp
          clear hd hkp
          have hroom := HX2.out.2.1.room
          have r0 : w3.cell? ⟨bx, 0, none⟩ = some (.pointer (some ⟨x.r, 0, none⟩)) := by rw [cell_of_row _ _ 0 _ _ _ HX2.out.2.2.1]; rfl
          have r1 : w3.cell? ⟨bx, 1, none⟩ = some (.int .i64 x.p) := by rw [cell_of_row _ _ 1 _ _ _ HX2.out.2.2.1]; rfl
          have hcell : ∀ m, m < cu.size → ∃ u, w3.cell? ⟨g, m, none⟩ = some u := fun m hm => ⟨_, (cell_of_row _ _ _ _ _ _ HX2.out.2.1.blk).trans (Array.getElem?_eq_getElem hm)⟩
          obtain ⟨u0, t0⟩ := hcell (a * 2) (by omega)
          obtain ⟨u1, t1⟩ := hcell (a * 2 + 1) (by omega)
          have f0 : w3.frozen? ⟨g, a * 2, none⟩ = false := frozen_of_row _ _ _ _ _ HX2.out.2.1.blk
          have f1 : w3.frozen? ⟨g, a * 2 + 1, none⟩ = false := frozen_of_row _ _ _ _ _ HX2.out.2.1.blk
          have ha0 : (0 : Int) ≤ a := by omega
          have ha1 : (a : Int) < n := by omega
          clear hcell hroom
          go_wp2_with fail
          go_roundg (gk - 1)
          case measure => omega
          case rel =>
            obtain ⟨cu', hH, hz⟩ := HX2.out.2.1.keep (x := x) (by rw [HXa.out.2.1]; exact haj) hlt
            rw [HXa.out.2.1] at hH
            have ho := (only_set g (a * 2) w3 (.pointer (some ⟨x.r, 0, none⟩))).trans (only_set g (a * 2 + 1) _ (.int .i64 x.p))
            exact ⟨j + 1, a + 1, cu', by go_num, by go_num, by omega, by omega, by omega, Lib.hid ⟨HV.out.turn _ _ _ HX2.out.1 ho, by rw [HK.out]; exact hH, by rw [hz]; exact HXa.out.1, by rw [HK.out, List.length_append, HXa.out.2.1]; rfl, Nat.le_trans HX2.out.2.2.2 ho.size⟩⟩
      · obtain rfl : n = j := by omega
        have hna : 0 < n - a := by omega
        have hsz : (kp d l n).length = a := HX.out.2.2.2.1
        obtain ⟨w4, cu4, hcl, ho4, hb4, hz4, he4⟩ := clear_any wr g (a * 2) (n - a) (c - a) cu HX.out.2.1.blk hna (by have := HX.out.2.1.room; omega)
        have HFIN : Hid (DelIs g n c l d J cur.size w (.returned (.slice (some ⟨g, 0, none⟩) a c)) w4) := Lib.hid ⟨cu4, by rw [hsz], ⟨hb4, by rw [hsz, hz4]; have := HX.out.2.1.room; omega, rfl, fun k x hk => by
          have hkl := (List.getElem?_eq_some_iff.1 hk).1
          rw [he4 _ (by omega), he4 _ (by omega)]
          exact HX.out.2.1.head k x hk⟩, by rw [hz4]; exact HX.out.2.2.1, HV.out.turn _ _ _ HX.out.1 ho4, Nat.le_trans HX.out.2.2.2.2 ho4.size⟩
        have ha0 : (0 : Int) ≤ a := by omega
        have ha1 : (a : Int) ≤ n := by omega
        have hc1 : (n : Int) ≤ c := by omega
        have hca : ¬ c = a := by omega
        have ha2 : (a : Int) ≤ c := by omega
        clear HX hsz ho4 hb4 hz4 he4 hna
        go_wp2_with fail
        go_ret
        exact HFIN.out
  · have hk := kp_all (d := d) (l := l) n (by rw [HR.out.len]; exact Nat.le_refl _) hall
    rw [List.take_of_length_le (by rw [HR.out.len]; exact Nat.le_refl _)] at hk
    have HX := Lib.hid (And.intro hJ1 (And.intro (HR.out.on hg1) (And.intro hs1 hk)))
    clear hJ1 hg1 hs1 hk hall HI
    go_wp2_with fail
    go_ret
    refine ⟨cur, by rw [HX.out.2.2.2, HR.out.len]; rfl, by rw [HX.out.2.2.2, HR.out.len]; exact HX.out.2.1, rfl, HX.out.1, HX.out.2.2.1⟩
end Go.Proofs.YtfhggnbnbopkkaaDoor
