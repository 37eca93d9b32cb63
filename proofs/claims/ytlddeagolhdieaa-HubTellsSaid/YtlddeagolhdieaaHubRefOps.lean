/- The document's hub: its value; Watch, Close. -/
import Derived.Test.YtlddeagolhdieaaHubRefNext
namespace Go.Proofs.Ytlddeagolhdieaa
open Go.RowKit Go.MuLone Go.Conc

set_option maxRecDepth 100000
set_option maxHeartbeats 4000000
abbrev TRh : TypeId := 32
/-- a dialogue of the document's: its list's place, its list, the room, closed -/
structure DT where
  A : Option Addr
  l : List Hap
  c : Nat
  cl : Bool
def docL (D : Nat → DT) : List Value := (List.range 8).flatMap fun j => [.slice (D j).A (D j).l.length (D j).c, .bool (D j).cl]
def docC (D : Nat → DT) : Array Value := (docL D).toArray
theorem docC_lit (D : Nat → DT) : docC D = #[.slice (D 0).A (D 0).l.length (D 0).c, .bool (D 0).cl, .slice (D 1).A (D 1).l.length (D 1).c, .bool (D 1).cl, .slice (D 2).A (D 2).l.length (D 2).c, .bool (D 2).cl, .slice (D 3).A (D 3).l.length (D 3).c, .bool (D 3).cl,
    .slice (D 4).A (D 4).l.length (D 4).c, .bool (D 4).cl, .slice (D 5).A (D 5).l.length (D 5).c, .bool (D 5).cl, .slice (D 6).A (D 6).l.length (D 6).c, .bool (D 6).cl, .slice (D 7).A (D 7).l.length (D 7).c, .bool (D 7).cl] := rfl
theorem docC_size (D : Nat → DT) : (docC D).size = 16 := by rw [docC_lit]; rfl
theorem docC_at (D : Nat → DT) {j : Nat} (h : j < 8) : (docC D)[j * 2]? = some (.slice (D j).A (D j).l.length (D j).c) ∧ (docC D)[j * 2 + 1]? = some (.bool (D j).cl) := by
  rw [docC_lit]
  match j, h with
  | 0, _ => exact ⟨rfl, rfl⟩
  | 1, _ => exact ⟨rfl, rfl⟩
  | 2, _ => exact ⟨rfl, rfl⟩
  | 3, _ => exact ⟨rfl, rfl⟩
  | 4, _ => exact ⟨rfl, rfl⟩
  | 5, _ => exact ⟨rfl, rfl⟩
  | 6, _ => exact ⟨rfl, rfl⟩
  | 7, _ => exact ⟨rfl, rfl⟩
def updD (D : Nat → DT) (i : Nat) (r : DT) : Nat → DT := fun j => if j = i then r else D j
theorem docC_cl (D : Nat → DT) {j : Nat} (h : j < 8) : (docC D).setIfInBounds (j * 2 + 1) (.bool true) = docC (updD D j { D j with cl := true }) := by
  rw [docC_lit, docC_lit]
  match j, h with
  | 0, _ => rfl
  | 1, _ => rfl
  | 2, _ => rfl
  | 3, _ => rfl
  | 4, _ => rfl
  | 5, _ => rfl
  | 6, _ => rfl
  | 7, _ => rfl
theorem docC_l (D : Nat → DT) {j : Nat} (h : j < 8) (A : Option Addr) (l : List Hap) (c : Nat) : (docC D).setIfInBounds (j * 2) (.slice A l.length c) = docC (updD D j { D j with A := A, l := l, c := c }) := by
  rw [docC_lit, docC_lit]
  match j, h with
  | 0, _ => rfl
  | 1, _ => rfl
  | 2, _ => rfl
  | 3, _ => rfl
  | 4, _ => rfl
  | 5, _ => rfl
  | 6, _ => rfl
  | 7, _ => rfl
def watchE (D : Nat → DT) (talk from' : Int) : Int := if 0 ≤ talk ∧ talk < 8 then (if 0 ≤ from' ∧ from' ≤ (D talk.toNat).l.length then 0 else 5) else 2
theorem rwatch_any (D : Nat → DT) (talk from' : Int) (w : World) : Calls Try.prog 16 #[.agg (docC D), .int .i64 talk, .int .i64 from'] w fun e w' => e = .returned (.int .i64 (watchE D talk from')) ∧ Below w.heap.size w w' := by
  have hg := heap_alloc_new w (.cells (docC D) TRh)
  have hb := below_new w (.cells (docC D) TRh)
  have HG := Lib.hid (And.intro hg hb)
  clear hg hb
  by_cases ht : 0 ≤ talk ∧ talk < 8
  · obtain ⟨t, rfl⟩ : ∃ t : Nat, talk = t := ⟨talk.toNat, by omega⟩
    have ht8 : t < 8 := by omega
    have h0 : (0 : Int) ≤ t := by omega
    have h1 : (t : Int) < 8 := by omega
    have k0 : (w.alloc (.cells (docC D) TRh)).cell? ⟨w.heap.size, t * 2, none⟩ = some (.slice (D t).A (D t).l.length (D t).c) := by rw [cell_of_row _ _ _ _ _ _ HG.out.1]; exact (docC_at D ht8).1
    have HI := Lib.hid (in_yes t (w.alloc (.cells (docC D) TRh)) h0 h1)
    by_cases hf : from' < 0
    · have d0 : decide (from' < 0) = true := decide_eq_true hf
      have HE : Hid (watchE D t from' = 5) := Lib.hid (by unfold watchE; rw [if_pos ⟨h0, h1⟩, if_neg (by omega)])
      rw [HE.out]
      go_enter Try.func16, Try.ntmps16
      go_wp2_with fail
      refine HI.out.mono ?_
      rintro e w2 ⟨rfl, rfl⟩
      go_wp2_with fail
      go_ret
      exact ⟨rfl, HG.out.2⟩
    · have d0 : decide (from' < 0) = false := decide_eq_false hf
      by_cases hf2 : from' ≤ (D t).l.length
      · have d1 : decide (((D t).l.length : Int) < from') = false := decide_eq_false (by omega)
        have HE : Hid (watchE D t from' = 0) := Lib.hid (by unfold watchE; rw [if_pos ⟨h0, h1⟩, if_pos ⟨by omega, by simpa using hf2⟩])
        rw [HE.out]
        clear hf2
        go_enter Try.func16, Try.ntmps16
        go_wp2_with fail
        refine HI.out.mono ?_
        rintro e w2 ⟨rfl, rfl⟩
        go_wp2_with fail
        go_ret
        exact ⟨rfl, HG.out.2⟩
      · have d1 : decide (((D t).l.length : Int) < from') = true := decide_eq_true (by omega)
        have HE : Hid (watchE D t from' = 5) := Lib.hid (by unfold watchE; rw [if_pos ⟨h0, h1⟩, if_neg (fun h => hf2 (by simpa using h.2))])
        rw [HE.out]
        clear hf2
        go_enter Try.func16, Try.ntmps16
        go_wp2_with fail
        refine HI.out.mono ?_
        rintro e w2 ⟨rfl, rfl⟩
        go_wp2_with fail
        go_ret
        exact ⟨rfl, HG.out.2⟩
  · have HI := Lib.hid (in_no talk (w.alloc (.cells (docC D) TRh)) (by omega))
    have HE : Hid (watchE D talk from' = 2) := Lib.hid (by unfold watchE; rw [if_neg ht])
    rw [HE.out]
    clear ht
    go_enter Try.func16, Try.ntmps16
    go_wp2_with fail
    refine HI.out.mono ?_
    rintro e w2 ⟨rfl, rfl⟩
    go_wp2_with fail
    go_ret
    exact ⟨rfl, HG.out.2⟩
end Go.Proofs.Ytlddeagolhdieaa
