/- A hub that is none, a watch that is none, a dialogue that is none; At. -/
import Derived.Test.YtlddeagolhdieaaHubOps
namespace Go.Proofs.Ytlddeagolhdieaa
open Go.RowKit Go.MuLone Go.Conc

set_option maxRecDepth 100000
theorem at_any {g b at' : Nat} (w : World) (hw : WaB w g b at') : Calls Try.prog 20 #[.pointer (some ⟨g, 0, none⟩)] w fun e w' => e = .returned (.int .i64 at') ∧ w' = w := by
  have c1 : w.cell? ⟨g, 1, none⟩ = some (.int .i64 at') := by rw [cell_of_row _ _ 1 _ _ _ hw]; rfl
  clear hw
  go_enter Try.func20, Try.ntmps20
  go_wp2_with fail
  go_ret
  exact ⟨rfl, rfl⟩
theorem at_nil (w : World) : Calls Try.prog 20 #[.pointer none] w fun e w' => e = .returned (.int .i64 0) ∧ w' = w := by
  go_enter Try.func20, Try.ntmps20
  go_wp2_with fail
  go_ret
  exact ⟨rfl, rfl⟩
theorem next_nil (most : Int) (w : World) : Calls Try.prog 17 #[.pointer none, .int .i64 most] w fun e w' => e = .returned (.tuple #[.slice none 0 0, .bool false]) ∧ w' = w := by
  go_enter Try.func17, Try.ntmps17
  go_wp2_with fail
  exact bodyPost_ret (results_tmp2 rfl _ _ _) rfl ⟨rfl, rfl⟩

/-- the stream that is none: the answer of what asks for it -/
def NoSt (P : Value) (talk r : Int) (w : World) : Prop := Calls Try.prog 25 #[P, .int .i64 talk] w fun e w' => e = .returned (.tuple #[.pointer none, .int .i64 r]) ∧ w' = w
theorem add_no (P : Value) (talk r : Int) (A : Option Addr) (n cap : Nat) (w : World) (HX : Hid (NoSt P talk r w)) (hr : r = 1 ∨ r = 2) :
    Calls Try.prog 11 #[P, .int .i64 talk, .slice A n cap] w fun e w' => e = .returned (.int .i64 r) ∧ w' = w := by
  rcases hr with rfl | rfl <;> (
    go_enter Try.func11, Try.ntmps11
    go_wp2_with fail
    refine HX.out.mono ?_
    rintro e w' ⟨rfl, rfl⟩
    go_wp2_with fail
    go_ret
    exact ⟨rfl, rfl⟩)
theorem close_no (P : Value) (talk r : Int) (w : World) (HX : Hid (NoSt P talk r w)) (hr : r = 1 ∨ r = 2) :
    Calls Try.prog 13 #[P, .int .i64 talk] w fun e w' => e = .returned (.int .i64 r) ∧ w' = w := by
  rcases hr with rfl | rfl <;> (
    go_enter Try.func13, Try.ntmps13
    go_wp2_with fail
    refine HX.out.mono ?_
    rintro e w' ⟨rfl, rfl⟩
    go_wp2_with fail
    go_ret
    exact ⟨rfl, rfl⟩)
theorem len_no (P : Value) (talk r : Int) (w : World) (HX : Hid (NoSt P talk r w)) (hr : r = 1 ∨ r = 2) :
    Calls Try.prog 22 #[P, .int .i64 talk] w fun e w' => e = .returned (.int .i64 0) ∧ w' = w := by
  rcases hr with rfl | rfl <;> (
    go_enter Try.func22, Try.ntmps22
    go_wp2_with fail
    refine HX.out.mono ?_
    rintro e w' ⟨rfl, rfl⟩
    go_wp2_with fail
    go_ret
    exact ⟨rfl, rfl⟩)
theorem watch_no (P : Value) (talk r from' : Int) (w : World) (HX : Hid (NoSt P talk r w)) (hr : r = 1 ∨ r = 2) :
    Calls Try.prog 15 #[P, .int .i64 talk, .int .i64 from'] w fun e w' => e = .returned (.tuple #[.pointer none, .int .i64 r]) ∧ w' = w := by
  rcases hr with rfl | rfl <;> (
    go_enter Try.func15, Try.ntmps15
    go_wp2_with fail
    refine HX.out.mono ?_
    rintro e w' ⟨rfl, rfl⟩
    go_wp2_with fail
    exact bodyPost_ret (results_tmp2 rfl _ _ _) rfl ⟨rfl, rfl⟩)
end Go.Proofs.Ytlddeagolhdieaa
