/- The statement HubLimits: the law returns true, and what was there stays as it was; the row says 'leaving' and that the clock may turn. -/
import Derived.Test.YtlddeagolhdieaaRowKit
import Derived.Test.YtlddeagolhdieaaHubLeave
import Derived.Test.YtlddeagolhdieaaHubLimits2
namespace Go.Proofs.Ytlddeagolhdieaa
open Go.ChangeShapes Go.WideShapes Go.ChangeAt Go.RowKit Go.ConcM
open Go.ChangeMaps (open_string)

set_option maxRecDepth 100000 in
theorem hubLimits_lifted (os : Os) (started : os.Started) (H : Type) (enc : TypeId × Value → H) (F : Stop.Interp) :
    ReturnsInLeavingWide Rows.hubLimitsRow.assume Try.checked os 7 .any (Rows.hubLimitsSpec.pre6 enc Try.prog Try.f7 Rows.hubLimitsRow.domain false)
      ((OpenSpec.ofChange Rows.hubLimitsSpec).postWith enc Try.prog Try.f7 F (outsideKept [.timePasses]) false true false) := by
  refine returnsInLeavingWide_of_change_time (C := Try.checked) law_own started Try.func7
    (ChangeSpec.witness6c (enc := enc) (C := Try.checked) ⟨#[], #[], []⟩ 8 (by kernel_rfl) (by kernel_rfl) (by kernel_rfl) (by kernel_rfl)) ?_
  intro W base args ds gs before _ hW hcnd hsz _
  have hW' := hW
  obtain ⟨p, q, hA0, hV, rfl, hfz, hnd⟩ := hW
  have hA : DataW.TrodAll enc Try.prog W 0 (fun _ => true) true Try.f7.params.toList args.toList ds p := hA0
  rw [Try.params7] at hA
  obtain ⟨hargs, rfl, rfl⟩ := trodAll_nil hA
  obtain rfl : args = #[] := by cases args; simp_all
  obtain ⟨rfl, rfl⟩ := trodVars_none hV
  refine good_of_calls (by kernel_rfl) ((hubLimits_walk W).mono fun e W' ⟨he, hg⟩ => ?_)
  subst he
  refine ⟨?_, by rw [hg.os]; exact OsLater.refl _⟩
  rw [show ({ W' with os := W.os } : World) = W' by rw [← hg.os]]
  exact post_law law_laidOut rfl rfl Try.underlying4 (by kernel_rfl) hW' rfl hg

/-- the statement -/
theorem hubLimits_holds : Rows.HubLimitsSaid :=
  OpenClaim.holds_of_wide_leaving_time 7 Try.f7 rfl rfl rfl rfl rfl rfl rfl ⟨rfl, rfl, rfl, rfl, rfl⟩ rfl rfl rfl rfl rfl (by kernel_rfl) Try.func7 (by kernel_rfl)
    (of_decide_eq_true (by kernel_rfl)) (by unfold Func.isWrapper; first | (rw [if_pos (by decide +kernel)]; kernel_rfl) | (rw [if_neg (by decide +kernel)]; exact ⟨rfl, rfl⟩))
    (fun os started H enc _ F => hubLimits_lifted os started H enc F)

end Go.Proofs.Ytlddeagolhdieaa
