/- The statement MessageAbove: at every input the law returns true, and what was there stays as it was. -/
import Derived.Test.YtbapifbahhjfgaaRowKit
import Derived.Test.YtbapifbahhjfgaaMsgAboveLaw
import Derived.Lib.SmallJoins
open Go.Joins
namespace Go.Proofs.Ytbapifbahhjfgaa
open Go.ChangeShapes Go.WideShapes Go.ChangeAt Go.RowKit
open Go.ChangeMaps (open_string)

set_option maxRecDepth 100000 in
theorem messageAbove_lifted (os : Os) (started : os.Started) (H : Type) (enc : TypeId × Value → H) :
    ReturnsInHanded {} Try.checked os 6 .any (Rows.messageAboveSpec.pre6 enc Try.prog Try.f6 Rows.messageAboveRow.domain false) (Rows.messageAboveSpec.post enc Try.prog Try.f6 false true false false) := by
  refine returnsInHanded_of_change (C := Try.checked) law_own started (by kernel_rfl) Try.func6
    (ChangeSpec.witness6 (enc := enc) (C := Try.checked) false ⟨#[], #[.agg #[.int .i64 0, .int .i64 0], .agg #[.int .i64 0, .int .i64 0], .agg #[.int .i64 0, .int .i64 0]], []⟩ 8 (by kernel_rfl) (by kernel_rfl) (by kernel_rfl) (by kernel_rfl)) ?_
  intro W base args ds gs before hval0 hW hcnd _
  have hval : ∀ (j : Nat) t v, Try.f6.params[j]? = some t → args[j]? = some v → Value.okWide Try.prog W .any base t v := hval0
  have hW' := hW
  obtain ⟨p, q, hA0, hV, rfl, hfz, hnd⟩ := hW
  have hA : DataW.TrodAll enc Try.prog W 0 (fun _ => true) true Try.f6.params.toList args.toList ds p := hA0
  rw [Try.params6] at hA hval
  obtain ⟨v0, vs0, d0, ds0, p0, q0, hargs, rfl, rfl, k0, r0⟩ := trodAll_cons hA
  obtain ⟨v1, vs1, d1, ds1, p1, q1, rfl, rfl, rfl, k1, r1⟩ := trodAll_cons r0
  obtain ⟨v2, vs2, d2, ds2, p2, q2, rfl, rfl, rfl, k2, r2⟩ := trodAll_cons r1
  obtain ⟨rfl, rfl, rfl⟩ := trodAll_nil r2
  obtain rfl : args = #[v0, v1, v2] := by cases args; simp_all
  obtain ⟨rfl, rfl⟩ := trodVars_none hV
  obtain ⟨u0a, u0b, y0a, y0b, n0, rfl, rfl, rfl, e0a, e0b⟩ := open_agg2 Try.underlying25 (by kernel_rfl) (by kernel_rfl) (hval 0 25 v0 rfl rfl) k0
  obtain ⟨x0a, hx0a, _, _⟩ := DataW.trod_int Try.underlying3 e0a
  obtain rfl : u0a = .int .i64 x0a := by simpa using hx0a
  obtain ⟨x0b, hx0b, _, _⟩ := DataW.trod_int Try.underlying3 e0b
  obtain rfl : u0b = .int .i64 x0b := by simpa using hx0b
  obtain ⟨u1a, u1b, y1a, y1b, n1, rfl, rfl, rfl, e1a, e1b⟩ := open_agg2 Try.underlying25 (by kernel_rfl) (by kernel_rfl) (hval 1 25 v1 rfl rfl) k1
  obtain ⟨x1a, hx1a, _, _⟩ := DataW.trod_int Try.underlying3 e1a
  obtain rfl : u1a = .int .i64 x1a := by simpa using hx1a
  obtain ⟨x1b, hx1b, _, _⟩ := DataW.trod_int Try.underlying3 e1b
  obtain rfl : u1b = .int .i64 x1b := by simpa using hx1b
  obtain ⟨u2a, u2b, y2a, y2b, n2, rfl, rfl, rfl, e2a, e2b⟩ := open_agg2 Try.underlying25 (by kernel_rfl) (by kernel_rfl) (hval 2 25 v2 rfl rfl) k2
  obtain ⟨x2a, hx2a, _, _⟩ := DataW.trod_int Try.underlying3 e2a
  obtain rfl : u2a = .int .i64 x2a := by simpa using hx2a
  obtain ⟨x2b, hx2b, _, _⟩ := DataW.trod_int Try.underlying3 e2b
  obtain rfl : u2b = .int .i64 x2b := by simpa using hx2b
  refine (messageAbove_walk (x0a, x0b) (x1a, x1b) (x2a, x2b) W).mono fun e W' ⟨he, hg⟩ => ?_
  subst he
  exact ⟨_, rfl, post_law law_laidOut rfl rfl Try.underlying4 (by kernel_rfl) hW' rfl hg⟩

/-- the statement -/
theorem messageAbove_holds : Rows.MessageAboveSaid :=
  OpenClaim.holds_of_wide 6 Try.f6 rfl rfl rfl rfl rfl rfl rfl ⟨rfl, rfl, rfl, rfl, rfl⟩ rfl rfl rfl rfl rfl (by kernel_rfl) Try.func6 (by kernel_rfl)
    (of_decide_eq_true (by kernel_rfl)) (by unfold Func.isWrapper; first | (rw [if_pos (by decide +kernel)]; kernel_rfl) | (rw [if_neg (by decide +kernel)]; exact ⟨rfl, rfl⟩))
    (fun os started H enc _ => messageAbove_lifted os started H enc)

end Go.Proofs.Ytbapifbahhjfgaa
