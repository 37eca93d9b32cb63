/- Quoted and Unquote: the walks, with the deferred closure. -/
import Derived.Test.YtlfhjmdbkifciaaPatScan
import Derived.Test.YtlfhjmdbkifciaaPatTop
namespace Go.Proofs.Ytlfhjmdbkifciaa
open Go.RowKit PM

theorem assert_long (k : Int) (w : World) : (Instr.typeAssert (.iface TLg (.int .i64 k)) 20 TLg true).run Try.prog w = .ok (.tuple #[.int .i64 k, .bool true]) w := by kernel_rfl
theorem assert_long_wrong (k : Int) (w : World) : (Instr.typeAssert (.iface TLg (.int .i64 k)) 20 TWr true).run Try.prog w = .ok (.tuple #[.int .i64 0, .bool false]) w := by kernel_rfl
theorem assert_none_long (w : World) : (Instr.typeAssert .nilIface 20 TLg true).run Try.prog w = .ok (.tuple #[.int .i64 0, .bool false]) w := by kernel_rfl

/-- the results' boxes of Quoted -/
structure QB (w : World) (b : Nat) (x : ByteArray) (n : Int) : Prop where
  out : w.heap[b]? = some (.cells #[.string x] 9 (0, 0))
  num : w.heap[b + 1]? = some (.cells #[.int .i64 n] TI (0, 0))
  spot : w.heap[b + 2]? = some (.cells (spotC 0 0) TSp (0, 0))

def quotedW (w : World) (b e k : Nat) : World := ((w.setCell ⟨b, 0, none⟩ (.string ⟨#[]⟩)).setCell ⟨b + 1, 0, none⟩ (.int .i64 0)).setRow (b + 2) (spotC e k)

theorem QB.cells {w : World} {b : Nat} {x : ByteArray} {n : Int} (h : QB w b x n) : w.cell? ⟨b, 0, none⟩ = some (.string x) ∧ w.cell? ⟨b + 1, 0, none⟩ = some (.int .i64 n) ∧ w.frozen? ⟨b, 0, none⟩ = false ∧ w.frozen? ⟨b + 1, 0, none⟩ = false :=
  ⟨by rw [cell_of_row w b 0 _ _ _ h.out]; rfl, by rw [cell_of_row w (b + 1) 0 _ _ _ h.num]; rfl, frozen_of_row w b 0 _ _ h.out, frozen_of_row w (b + 1) 0 _ _ h.num⟩
theorem QB.on {w w' : World} {b : Nat} {x : ByteArray} {n : Int} (h : QB w b x n) (hb : Below w.heap.size w w') : QB w' b x n :=
  ⟨(hb.block _ (lt_of_block h.out)).trans h.out, (hb.block _ (lt_of_block h.num)).trans h.num, (hb.block _ (lt_of_block h.spot)).trans h.spot⟩
theorem QB.setOut {w : World} {b : Nat} {x : ByteArray} {n : Int} (h : QB w b x n) (y : ByteArray) : QB (w.setCell ⟨b, 0, none⟩ (.string y)) b y n := by
  have := heap_setCell_same w b 0 _ _ (.string y) h.out
  exact ⟨by rw [this]; rfl, (Below.heap_setCell _ _ _ _ (by simp)).trans h.num, (Below.heap_setCell _ _ _ _ (by simp)).trans h.spot⟩
theorem QB.setNum {w : World} {b : Nat} {x : ByteArray} {n : Int} (h : QB w b x n) (m : Int) : QB (w.setCell ⟨b + 1, 0, none⟩ (.int .i64 m)) b x m := by
  have := heap_setCell_same w (b + 1) 0 _ _ (.int .i64 m) h.num
  exact ⟨(Below.heap_setCell _ _ _ _ (by simp)).trans h.out, by rw [this]; rfl, (Below.heap_setCell _ _ _ _ (by simp)).trans h.spot⟩
theorem below_setAt (B : Nat) (w : World) (b i : Nat) (v : Value) (h : B ≤ b) : Below B w (w.setCell ⟨b, i, none⟩ v) := (Below.refl _ _).setCell (p := ⟨b, i, none⟩) h v
theorem below_rowAt (B : Nat) (w : World) (b : Nat) (cs : Array Value) (h : B ≤ b) : Below B w (w.setRow b cs) := ⟨rfl, rfl, rfl, by simp, fun k hk => setRow_other _ _ _ _ (by omega)⟩
theorem below_quotedW (B : Nat) (w : World) (b e k : Nat) (h : B ≤ b) : Below B w (quotedW w b e k) :=
  ((below_setAt B w b 0 _ h).trans (below_setAt B _ (b + 1) 0 _ (by omega))).trans (below_rowAt B _ (b + 2) _ (by omega))

set_option maxRecDepth 100000 in
set_option maxHeartbeats 4000000 in
theorem quotedCatch_wrong (b : Nat) (k : Nat) (x : ByteArray) (n : Int) (w : World) (h : QB w b x n) :
    CallsD Try.prog 48 #[.pointer (some ⟨b, 0, none⟩), .pointer (some ⟨b + 1, 0, none⟩), .pointer (some ⟨b + 2, 0, none⟩)] (.panicking (wrongP k)) w fun e u' w' =>
      e = .returned (.tuple #[]) ∧ u' = .panicking [{ v := .iface TWr (.int .i64 k), recovered := true }] ∧ w' = quotedW w b 6 k := by
  refine callsD_of_wpS Try.func48 rfl fun c₀ cs hu => ?_
  unfold wrongP at hu
  have hta := assert_wrong k
  apply wpS_seq
  apply wpS_region
  simp [wpOpsS, go_sem, recoverD, hu, Try.ntmps48, Exit.thenS]
  refine wpS_of_wp ?_
  simp only [Array.replicate_succ, Array.replicate_zero, List.push_toArray, List.append_toArray, List.nil_append, List.cons_append, List.setIfInBounds_toArray, List.set_cons_zero, List.set_cons_succ]
  obtain ⟨d0, d1, g0, g1⟩ := h.cells
  have HS := Lib.hid ((h.setOut ⟨#[]⟩).setNum 0).spot; have HU := Lib.hid hu
  have HTA := Lib.hid hta
  clear h hu
  go_wp2_with (refine wpList_store_row rfl TSp (.tmp 2) (.tmp 10) rfl (b + 2) (spotC 6 k) rfl rfl TSp (spotC 0 0) HS.out (by kernel_rfl) rfl (by simp [spotC, Value.oneCell']) ?_)
  simp [bodyPostS, results, Try.results48, go_sem, quotedW, Act.put]

set_option maxRecDepth 100000 in
set_option maxHeartbeats 4000000 in
theorem quotedCatch_long (b : Nat) (k : Nat) (x : ByteArray) (n : Int) (w : World) (h : QB w b x n) :
    CallsD Try.prog 48 #[.pointer (some ⟨b, 0, none⟩), .pointer (some ⟨b + 1, 0, none⟩), .pointer (some ⟨b + 2, 0, none⟩)] (.panicking (longP k)) w fun e u' w' =>
      e = .returned (.tuple #[]) ∧ u' = .panicking [{ v := .iface TLg (.int .i64 k), recovered := true }] ∧ w' = quotedW w b 3 k := by
  refine callsD_of_wpS Try.func48 rfl fun c₀ cs hu => ?_
  unfold longP at hu
  have hta := assert_long_wrong k
  have htb := assert_long k
  apply wpS_seq
  apply wpS_region
  simp [wpOpsS, go_sem, recoverD, hu, Try.ntmps48, Exit.thenS]
  refine wpS_of_wp ?_
  simp only [Array.replicate_succ, Array.replicate_zero, List.push_toArray, List.append_toArray, List.nil_append, List.cons_append, List.setIfInBounds_toArray, List.set_cons_zero, List.set_cons_succ]
  obtain ⟨d0, d1, g0, g1⟩ := h.cells
  have HS := Lib.hid ((h.setOut ⟨#[]⟩).setNum 0).spot; have HU := Lib.hid hu
  clear h hu
  go_wp2_with (refine wpList_store_row rfl TSp (.tmp 2) (.tmp 15) rfl (b + 2) (spotC 3 k) rfl rfl TSp (spotC 0 0) HS.out (by kernel_rfl) rfl (by simp [spotC, Value.oneCell']) ?_)
  simp [bodyPostS, results, Try.results48, go_sem, quotedW, Act.put]

set_option maxRecDepth 100000 in
set_option maxHeartbeats 4000000 in
theorem quotedCatch_idle (b : Nat) (w : World) :
    CallsD Try.prog 48 #[.pointer (some ⟨b, 0, none⟩), .pointer (some ⟨b + 1, 0, none⟩), .pointer (some ⟨b + 2, 0, none⟩)] .returning w fun e u' w' => e = .returned (.tuple #[]) ∧ u' = .returning ∧ w' = w := by
  refine callsD_of_wpS Try.func48 rfl fun c₀ cs hu => ?_
  have hta := assert_none
  have htb := assert_none_long
  apply wpS_seq
  apply wpS_region
  simp [wpOpsS, go_sem, recoverD, hu, Try.ntmps48, Exit.thenS]
  refine wpS_of_wp ?_
  simp only [Array.replicate_succ, Array.replicate_zero, List.push_toArray, List.append_toArray, List.nil_append, List.cons_append, List.setIfInBounds_toArray, List.set_cons_zero, List.set_cons_succ]
  have HU := Lib.hid hu
  clear hu
  go_wp2_with fail
  have hu := HU.out
  cases c₀
  simp_all [bodyPostS, results, Try.results48, go_sem]

theorem load_cell1 {t : TypeId} {d : TypeDesc} (_ht : Try.prog.underlying t = some d) (hd : ∀ w, (isAgg t).run Try.prog w = .ok false w) (W : World) (b : Nat) (v : Value) (h : W.cell? ⟨b, 0, none⟩ = some v) : (loadVar t ⟨b, 0, none⟩).run Try.prog W = .ok v W := by
  simp [loadVar, hd, go_sem, h]

theorem results_rows3 {fn : Func} {p1 p2 p3 : Tmp} {t1 t2 t3 : TypeId} (h : fn.results = #[.cell p1 t1, .cell p2 t2, .cell p3 t3]) (tmps : Array Value) (W : World) (b1 b2 b3 : Nat) (X Y Z : Value)
    (h1 : tmps.getD p1 undef = .pointer (some ⟨b1, 0, none⟩)) (h2 : tmps.getD p2 undef = .pointer (some ⟨b2, 0, none⟩)) (h3 : tmps.getD p3 undef = .pointer (some ⟨b3, 0, none⟩)) (l1 : (loadVar t1 ⟨b1, 0, none⟩).run Try.prog W = .ok X W) (l2 : (loadVar t2 ⟨b2, 0, none⟩).run Try.prog W = .ok Y W) (l3 : (loadVar t3 ⟨b3, 0, none⟩).run Try.prog W = .ok Z W) :
    (results fn tmps).run Try.prog W = .ok (.tuple #[X, Y, Z]) W := by
  have h1' : tmps[p1]?.getD undef = .pointer (some ⟨b1, 0, none⟩) := by simpa using h1
  have h2' : tmps[p2]?.getD undef = .pointer (some ⟨b2, 0, none⟩) := by simpa using h2
  have h3' : tmps[p3]?.getD undef = .pointer (some ⟨b3, 0, none⟩) := by simpa using h3
  simp [results, h, h1', h2', h3', asAddr, l1, l2, l3]

theorem quoted_results (tmps : Array Value) (W : World) (b : Nat) (x : ByteArray) (n : Int) (Y : Array Value) (h1 : tmps.getD 4 undef = .pointer (some ⟨b, 0, none⟩)) (h2 : tmps.getD 5 undef = .pointer (some ⟨b + 1, 0, none⟩)) (h3 : tmps.getD 6 undef = .pointer (some ⟨b + 2, 0, none⟩))
    (hx : W.heap[b]? = some (.cells #[.string x] 9 (0, 0))) (hn : W.heap[b + 1]? = some (.cells #[.int .i64 n] TI (0, 0))) (hY : W.heap[b + 2]? = some (.cells Y TSp (0, 0))) (hY2 : Y.size = 2) :
    (results Try.f24 tmps).run Try.prog W = .ok (.tuple #[.string x, .int .i64 n, .agg Y]) W :=
  results_rows3 rfl tmps W b (b + 1) (b + 2) _ _ _ h1 h2 h3 (load_cell1 Try.underlying9 Try.isAgg9 W b _ (by rw [cell_of_row W b 0 _ _ _ hx]; rfl)) (load_cell1 Try.underlying3 Try.isAgg3 W (b + 1) _ (by rw [cell_of_row W (b + 1) 0 _ _ _ hn]; rfl)) (load_spot W (b + 2) Y hY hY2)

def quotedD (b : Nat) : Deferred := { target := .fn (.func 48) #[.pointer (some ⟨b, 0, none⟩), .pointer (some ⟨b + 1, 0, none⟩), .pointer (some ⟨b + 2, 0, none⟩)], args := #[] }

theorem quoted_door {W : World} {R : Ending → World → Prop} {tmps : Array Value} {x : ByteArray} {n : Int} {Y : Array Value} (b : Nat) (h1 : tmps.getD 4 undef = .pointer (some ⟨b, 0, none⟩)) (h2 : tmps.getD 5 undef = .pointer (some ⟨b + 1, 0, none⟩)) (h3 : tmps.getD 6 undef = .pointer (some ⟨b + 2, 0, none⟩))
    (hx : W.heap[b]? = some (.cells #[.string x] 9 (0, 0))) (hn : W.heap[b + 1]? = some (.cells #[.int .i64 n] TI (0, 0))) (hY : W.heap[b + 2]? = some (.cells Y TSp (0, 0))) (hY2 : Y.size = 2) (hR : R (.returned (.tuple #[.string x, .int .i64 n, .agg Y])) W) :
    bodyPostD Try.prog Try.f24 R .ret { tmps := tmps, defers := [quotedD b] } W := by
  refine leaves_cons (f := 48) (args := #[.pointer (some ⟨b, 0, none⟩), .pointer (some ⟨b + 1, 0, none⟩), .pointer (some ⟨b + 2, 0, none⟩)]) (by simp) (by simp [go_sem]) ?_
  refine (quotedCatch_idle b W).mono ?_
  rintro e u' w'' ⟨rfl, rfl, rfl⟩
  exact ⟨_, quoted_results _ _ b x n Y h1 h2 h3 hx hn hY hY2, hR⟩

theorem quotedW_facts {W : World} {b : Nat} {x : ByteArray} {n : Int} (h : QB W b x n) (e k : Nat) : (quotedW W b e k).heap[b]? = some (.cells #[.string ⟨#[]⟩] 9 (0, 0)) ∧ (quotedW W b e k).heap[b + 1]? = some (.cells #[.int .i64 0] TI (0, 0)) ∧ (quotedW W b e k).heap[b + 2]? = some (.cells (spotC e k) TSp (0, 0)) := by
  have h' := (h.setOut ⟨#[]⟩).setNum 0
  exact ⟨(setRow_other _ _ _ _ (by omega)).trans h'.out, (setRow_other _ _ _ _ (by omega)).trans h'.num, setRow_heap _ _ _ _ _ _ h'.spot⟩

theorem quoted_door_wrong {W : World} {R : Ending → World → Prop} {tmps : Array Value} {x : ByteArray} {n : Int} (b k : Nat) (h1 : tmps.getD 4 undef = .pointer (some ⟨b, 0, none⟩)) (h2 : tmps.getD 5 undef = .pointer (some ⟨b + 1, 0, none⟩)) (h3 : tmps.getD 6 undef = .pointer (some ⟨b + 2, 0, none⟩))
    (h : QB W b x n) (hR : R (.returned (.tuple #[.string ⟨#[]⟩, .int .i64 0, spotV 6 k])) (quotedW W b 6 k)) :
    bodyPostD Try.prog Try.f24 R (.panic (wrongP k)) { tmps := tmps, defers := [quotedD b] } W := by
  refine leaves_cons (f := 48) (args := #[.pointer (some ⟨b, 0, none⟩), .pointer (some ⟨b + 1, 0, none⟩), .pointer (some ⟨b + 2, 0, none⟩)]) (by simp) (by simp [go_sem]) ?_
  refine (quotedCatch_wrong b k x n W h).mono ?_
  rintro e u' w'' ⟨rfl, rfl, rfl⟩
  obtain ⟨f1, f2, f3⟩ := quotedW_facts h 6 k
  exact ⟨_, quoted_results _ _ b _ _ _ h1 h2 h3 f1 f2 f3 rfl, hR⟩
theorem quoted_door_long {W : World} {R : Ending → World → Prop} {tmps : Array Value} {x : ByteArray} {n : Int} (b k : Nat) (h1 : tmps.getD 4 undef = .pointer (some ⟨b, 0, none⟩)) (h2 : tmps.getD 5 undef = .pointer (some ⟨b + 1, 0, none⟩)) (h3 : tmps.getD 6 undef = .pointer (some ⟨b + 2, 0, none⟩))
    (h : QB W b x n) (hR : R (.returned (.tuple #[.string ⟨#[]⟩, .int .i64 0, spotV 3 k])) (quotedW W b 3 k)) :
    bodyPostD Try.prog Try.f24 R (.panic (longP k)) { tmps := tmps, defers := [quotedD b] } W := by
  refine leaves_cons (f := 48) (args := #[.pointer (some ⟨b, 0, none⟩), .pointer (some ⟨b + 1, 0, none⟩), .pointer (some ⟨b + 2, 0, none⟩)]) (by simp) (by simp [go_sem]) ?_
  refine (quotedCatch_long b k x n W h).mono ?_
  rintro e u' w'' ⟨rfl, rfl, rfl⟩
  obtain ⟨f1, f2, f3⟩ := quotedW_facts h 3 k
  exact ⟨_, quoted_results _ _ b _ _ _ h1 h2 h3 f1 f2 f3 rfl, hR⟩

/-- what Quoted tells -/
def quotedV (r : Sc) : Value :=
  match r with
  | .ok out pl => .tuple #[.string (bs out), .int .i64 (pl.getLastD 0 + 1 : Nat), spotV 0 0]
  | .wrong k => .tuple #[.string ⟨#[]⟩, .int .i64 0, spotV 6 k]
  | .long k => .tuple #[.string ⟨#[]⟩, .int .i64 0, spotV 3 k]

/-- the places of what was read: at least one, all within the text -/
theorem scanL_places {most : Int} (N : Nat) : ∀ (f : Nat) (l : List UInt8) (a : Nat) (out : List UInt8) (pl : List Nat) {o : List UInt8} {q : List Nat}, scanL most f l a out pl = .ok o q → a + l.length ≤ N → (∀ x ∈ pl, x < N) → q ≠ [] ∧ (∀ x ∈ q, x < N) ∧ q.length + out.length = o.length + pl.length + 1
  | 0, l, a, out, pl, o, q, h, _, _ => by simp [scanL] at h
  | f + 1, l, a, out, pl, o, q, h, hN, hp => by
    simp only [scanL] at h
    split at h
    · cases h
    · split at h
      · rename_i hh
        cases h
        have hl : l ≠ [] := by rintro rfl; simp at hh
        have : 0 < l.length := List.length_pos_iff.2 hl
        refine ⟨by simp, fun x hx => ?_, by simp; omega⟩
        rw [List.mem_append, List.mem_singleton] at hx
        rcases hx with hx | rfl
        · exact hp x hx
        · omega
      · split at h
        · rename_i c n hs
          have hs' := step_pos hs
          have := scanL_places N f _ _ _ _ h (by rw [List.length_drop]; omega) (fun x hx => by
            rw [List.mem_append, List.mem_singleton] at hx
            rcases hx with hx | rfl
            · exact hp x hx
            · omega)
          refine ⟨this.1, this.2.1, ?_⟩
          have h3 := this.2.2
          simp at h3
          omega
        · cases h

theorem scan_places {most : Int} {s : List UInt8} {a : Nat} {o : List UInt8} {q : List Nat} (h : scan most s a = .ok o q) : q ≠ [] ∧ (∀ x ∈ q, x < s.length) ∧ q.length = o.length + 1 := by
  unfold scan at h
  split at h
  · rename_i hh
    have hl : a < s.length := by
      rcases Nat.lt_or_ge a s.length with h | h
      · exact h
      · rw [List.drop_eq_nil_of_le h] at hh; simp at hh
    obtain ⟨h1, h2, h3⟩ := scanL_places s.length _ _ _ _ _ h (by rw [List.length_drop]; omega) (by simp)
    exact ⟨h1, h2, by simpa using h3⟩
  · cases h

end Go.Proofs.Ytlfhjmdbkifciaa
