/- A way through a net: Begin, Copy, Done, Dead, Step. -/
import Derived.Test.YtfhggnbnbopkkaaDoorNfaLink
import Derived.BigQuiet
namespace Go.Proofs.YtfhggnbnbopkkaaDoor
open Go.RowKit PM

/-- a run: its net, its places, whether nothing was stepped yet -/
def RB (w : World) (r b : Nat) (a : Nat → Bool) (f : Bool) : Prop := w.heap[r]? = some (.cells #[.pointer (some ⟨b, 0, none⟩), .int .u64 (B64 a : Nat), .bool f] TRn (0, 0))
section
variable {w : World} {r b : Nat} {a : Nat → Bool} {f : Bool}
theorem RB.c0 (h : RB w r b a f) : w.cell? ⟨r, 0, none⟩ = some (.pointer (some ⟨b, 0, none⟩)) := by rw [cell_of_row w r 0 _ _ _ h]; rfl
theorem RB.c1 (h : RB w r b a f) : w.cell? ⟨r, 1, none⟩ = some (.int .u64 (B64 a : Nat)) := by rw [cell_of_row w r 1 _ _ _ h]; rfl
theorem RB.c2 (h : RB w r b a f) : w.cell? ⟨r, 2, none⟩ = some (.bool f) := by rw [cell_of_row w r 2 _ _ _ h]; rfl
theorem RB.frozen (h : RB w r b a f) (i : Nat) : w.frozen? ⟨r, i, none⟩ = false := frozen_of_row w r i _ _ h
theorem RB.lt (h : RB w r b a f) : r < w.heap.size := lt_of_block h
theorem RB.on {w' : World} (h : RB w r b a f) (hb : Below w.heap.size w w') : RB w' r b a f := (hb.block r h.lt).trans h
theorem RB.grown {w' : World} (h : RB w r b a f) {g : Option Nat} (hg : w.grownBy w' g) (hr : g ≠ some r) : RB w' r b a f := (hg.block r h.lt (fun e => hr e.symm)).trans h
end

/-- the bits that two sets share -/
def meets (a c : Nat → Bool) : Bool := decide ((B64 fun x => a x && c x) ≠ 0)
theorem meets_iff {a c : Nat → Bool} : meets a c = true ↔ ∃ k, k < 64 ∧ a k = true ∧ c k = true := by
  rw [meets, decide_eq_true_eq, B64_ne_zero]; simp only [Bool.and_eq_true]

set_option maxRecDepth 100000 in
set_option maxHeartbeats 1000000 in
theorem done_any (r b : Nat) (n : NS) (p : Part) (A : Nat → Bool) (o : Bool) (a : Nat → Bool) (f : Bool) (w : World) (hr : RB w r b a f) (hn : NB w b n p A o) :
    Calls Tryd.prog 38 #[.pointer (some ⟨r, 0, none⟩)] w fun e w' => e = .returned (.bool ((f && p.empty) || meets a p.last)) ∧ Below w.heap.size w w' := by
  have c0 := hr.c0; have c1 := hr.c1; have c2 := hr.c2
  have d2 := hn.c_empty; have d1 := hn.c_last
  have b1 := B64_lt a; have b2 := B64_lt p.last
  have hand : bits .and .u64 (B64 a : Int) (B64 p.last : Int) = ((B64 fun x => a x && p.last x : Nat) : Int) := by rw [bits_and_u64_nat _ _ b1 b2, B64_and]
  have hm : meets a p.last = decide ((B64 fun x => a x && p.last x) ≠ 0) := rfl
  generalize (B64 fun x => a x && p.last x) = y at *
  have HM := Lib.hid hm
  clear hm hr hn b1 b2
  cases f with
  | true =>
    cases hpe : p.empty with
    | true =>
      rw [hpe] at d2
      clear hpe
      go_enter Tryd.func38, Tryd.ntmps38
      go_wp2_with fail
      go_quiet (fail)
      go_wp2_with fail
      go_ret
      exact ⟨rfl, below_drew _ _ _⟩
    | false =>
      rw [hpe] at d2
      clear hpe
      by_cases h0 : y = 0
      · subst h0
        go_enter Tryd.func38, Tryd.ntmps38
        go_wp2_with fail
        go_quiet (fail)
        go_wp2_with fail
        go_ret
        exact ⟨by rw [HM.out]; rfl, below_drew _ _ _⟩
      · have hy : ((y : Int) != 0) = true := by simp; omega
        have HY := Lib.hid h0
        clear h0
        go_enter Tryd.func38, Tryd.ntmps38
        go_wp2_with fail
        go_quiet (fail)
        go_wp2_with fail
        go_ret
        exact ⟨by rw [HM.out, decide_eq_true HY.out]; rfl, below_drew _ _ _⟩
  | false =>
    by_cases h0 : y = 0
    · subst h0
      go_enter Tryd.func38, Tryd.ntmps38
      go_wp2_with fail
      go_quiet (fail)
      go_wp2_with fail
      go_ret
      exact ⟨by rw [HM.out]; rfl, below_drew _ _ _⟩
    · have hy : ((y : Int) != 0) = true := by simp; omega
      have HY := Lib.hid h0
      clear h0
      go_enter Tryd.func38, Tryd.ntmps38
      go_wp2_with fail
      go_quiet (fail)
      go_wp2_with fail
      go_ret
      exact ⟨by rw [HM.out, decide_eq_true HY.out]; rfl, below_drew _ _ _⟩
set_option maxRecDepth 100000 in
set_option maxHeartbeats 1000000 in
theorem dead_any (r b : Nat) (n : NS) (p : Part) (A : Nat → Bool) (o : Bool) (a : Nat → Bool) (f : Bool) (w : World) (hr : RB w r b a f) (hn : NB w b n p A o) :
    Calls Tryd.prog 37 #[.pointer (some ⟨r, 0, none⟩)] w fun e w' => e = .returned (.bool !((f && o) || meets a A)) ∧ Below w.heap.size w w' := by
  have c0 := hr.c0; have c1 := hr.c1; have c2 := hr.c2
  have d2 := hn.c_open; have d1 := hn.c_alive
  have b1 := B64_lt a; have b2 := B64_lt A
  have hand : bits .and .u64 (B64 a : Int) (B64 A : Int) = ((B64 fun x => a x && A x : Nat) : Int) := by rw [bits_and_u64_nat _ _ b1 b2, B64_and]
  have hm : meets a A = decide ((B64 fun x => a x && A x) ≠ 0) := rfl
  generalize (B64 fun x => a x && A x) = y at *
  have HM := Lib.hid hm
  clear hm hr hn b1 b2
  cases f with
  | true =>
    cases hpe : o with
    | true =>
      rw [hpe] at d2
      clear hpe
      go_enter Tryd.func37, Tryd.ntmps37
      go_wp2_with fail
      go_quiet (fail)
      go_wp2_with fail
      go_ret
      exact ⟨rfl, below_drew _ _ _⟩
    | false =>
      rw [hpe] at d2
      clear hpe
      by_cases h0 : y = 0
      · subst h0
        go_enter Tryd.func37, Tryd.ntmps37
        go_wp2_with fail
        go_quiet (fail)
        go_wp2_with fail
        go_ret
        exact ⟨by rw [HM.out]; rfl, below_drew _ _ _⟩
      · have hy : ((y : Int) != 0) = true := by simp; omega
        have HY := Lib.hid h0
        clear h0
        go_enter Tryd.func37, Tryd.ntmps37
        go_wp2_with fail
        go_quiet (fail)
        go_wp2_with fail
        go_ret
        exact ⟨by rw [HM.out, decide_eq_true HY.out]; rfl, below_drew _ _ _⟩
  | false =>
    by_cases h0 : y = 0
    · subst h0
      go_enter Tryd.func37, Tryd.ntmps37
      go_wp2_with fail
      go_quiet (fail)
      go_wp2_with fail
      go_ret
      exact ⟨by rw [HM.out]; rfl, below_drew _ _ _⟩
    · have hy : ((y : Int) != 0) = true := by simp; omega
      have HY := Lib.hid h0
      clear h0
      go_enter Tryd.func37, Tryd.ntmps37
      go_wp2_with fail
      go_quiet (fail)
      go_wp2_with fail
      go_ret
      exact ⟨by rw [HM.out, decide_eq_true HY.out]; rfl, below_drew _ _ _⟩

/-- Begin: at the net's beginning -/
theorem begin_any (b : Nat) (w : World) :
    Calls Tryd.prog 41 #[.pointer (some ⟨b, 0, none⟩)] w fun e w' => e = .returned (.pointer (some ⟨w.heap.size, 0, none⟩)) ∧ RB w' w.heap.size b none' true ∧ Below w.heap.size w w' := by
  have hz : B64 none' = 0 := B64_none
  go_enter Tryd.func41, Tryd.ntmps41
  go_wp2_with fail
  go_ret
  refine ⟨rfl, ?_, below_new _ _⟩
  unfold RB
  rw [hz]
  exact heap_alloc_new _ _

/-- Copy: a way that stands there, too -/
theorem copy_any (r b : Nat) (a : Nat → Bool) (f : Bool) (w : World) (hr : RB w r b a f) :
    Calls Tryd.prog 40 #[.pointer (some ⟨r, 0, none⟩)] w fun e w' => e = .returned (.pointer (some ⟨w.heap.size, 0, none⟩)) ∧ RB w' w.heap.size b a f ∧ Below w.heap.size w w' := by
  have c0 := hr.c0; have c1 := hr.c1; have c2 := hr.c2
  clear hr
  go_enter Tryd.func40, Tryd.ntmps40
  go_wp2_with fail
  go_ret
  exact ⟨rfl, heap_alloc_new _ _, below_new _ _⟩
end Go.Proofs.YtfhggnbnbopkkaaDoor
