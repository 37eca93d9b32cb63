/- The statement NfaNames: at every input the law returns true, and what was there stays as it was. -/
import Derived.Test.YtpiflikblpfgoaaDoorRowKit
import Derived.Test.YtpiflikblpfgoaaDoorNfaRowKit
import Derived.Test.YtpiflikblpfgoaaDoorTie
import Derived.Test.YtpiflikblpfgoaaDoorCards
import Derived.SevenTiedAt
import Derived.Test.YtpiflikblpfgoaaDoorNfaNames
import Derived.Test.YtpiflikblpfgoaaDoorRowPat
namespace Go.Proofs.YtpiflikblpfgoaaDoor
open Go.ChangeShapes Go.WideShapes Go.ChangeAt Go.RowKit
open Go.ChangeMaps (open_string)

set_option maxRecDepth 100000 in
theorem nfaNames_lifted (os : Os) (started : os.Started) (H : Type) (enc : TypeId × Value → H) :
    ReturnsInHanded {} Tryd.checked os 9 .any (fun w args => (Rows.nfaNamesSpec.pre enc Tryd.prog Tryd.f9 [] false w args ∧ laidMetH Tryd.prog laidL w) ∧ sizedMet enc Tryd.prog Tryd.f9 (OpenSpec.ofChange Rows.nfaNamesSpec) false w args)
      (Rows.nfaNamesSpec.post enc Tryd.prog Tryd.f9 false true false false) := by
  refine returnsInHanded_of_change_and (C := Tryd.checked) (X := fun w _ => laidMetH Tryd.prog laidL w) (fun _ _ _ hh h => h.of_heap hh) law_own started (by kernel_rfl) Tryd.func9
    (ChangeSpec.witness_shaped (enc := enc) (C := Tryd.checked) (os := os) (X := fun w _ => laidMetH Tryd.prog laidL w) false (World.doorLaid Tryd.prog 14 os) #[] 8 rfl (World.shaped_of_RefB (by kernel_rfl) (by kernel_rfl)) (by kernel_rfl) (by kernel_rfl) (by kernel_rfl) (door_met os _)) ?_
  intro W base args ds gs before _ hW hcnd hsz0 hL _
  have hsz : (DataW.weightsEach Tryd.prog (Tryd.f9.params.toList ++ Rows.nfaNamesSpec.plain.varTypes Tryd.prog) (ds ++ gs)).all (· ≤ reachBytes) = true := hsz0
  have hT := tab_of_laid hL
  have hW' := hW
  obtain ⟨p, q, hA0, hV, rfl, hfz, hnd⟩ := hW
  have hA : DataW.TrodAll enc Tryd.prog W 0 (fun _ => true) true Tryd.f9.params.toList args.toList ds p := hA0
  rw [Tryd.params9] at hA hsz
  obtain ⟨hargs, rfl, rfl⟩ := trodAll_nil hA
  obtain rfl : args = #[] := by cases args; simp_all
  obtain ⟨rfl, rfl⟩ := trodVars_none hV
  refine (nfaNames_walk W hT).mono fun e W' ⟨he, hg⟩ => ?_
  subst he
  exact ⟨_, rfl, post_law law_laidOut rfl rfl Tryd.underlying4 (by kernel_rfl) hW' rfl hg⟩

/-- the statement -/
theorem nfaNames_holds : Rows.NfaNamesSaid :=
  OpenClaim.holds_of_wide 9 Tryd.f9 rfl rfl rfl rfl rfl rfl rfl ⟨rfl, rfl, rfl, rfl, rfl⟩ rfl rfl rfl rfl rfl (by kernel_rfl) Tryd.func9 (by kernel_rfl)
    (of_decide_eq_true (by kernel_rfl)) (by unfold Func.isWrapper; first | (rw [if_pos (by decide +kernel)]; kernel_rfl) | (rw [if_neg (by decide +kernel)]; exact ⟨rfl, rfl⟩))
    (fun os started H enc _ => nfaNames_lifted os started H enc)

/-- the card -/
theorem nfaNames_card : Rows.NfaNamesCardSaid :=
  Claim7.holds_tied_plain_at .later [] [.data] true (true, "b76020eeaddf6329b8985470c08b3a5b354c6fcdcaa0eadd50efc38e30f2ab09") true
    nfaNames_holds (fun _ h => by cases h) (by kernel_rfl) (fun _ h => by cases h) nfaNames_row_tie rfl ⟨rfl, rfl⟩ (by kernel_rfl) rfl
    (fun f fn hf hfn => by
      obtain rfl : f = 9 := Option.some.inj ((show Tryd.prog.funcNamed "dragoman/dragomanlaw10.NfaNames" = some 9 by kernel_rfl).symm.trans hf) |>.symm
      obtain rfl : fn = Tryd.f9 := (Option.some.inj (Tryd.func9.symm.trans hfn)).symm
      exact ⟨by kernel_rfl, fun j t ht => by
        have hall : ∀ t ∈ Tryd.f9.params.toList, Tryd.prog.wantsStandIn t = false := by
          rw [Tryd.params9]
          simp only [List.mem_cons, List.not_mem_nil, or_false, forall_eq_or_imp, forall_eq, false_implies, implies_true]
          repeat' apply And.intro
          all_goals kernel_rfl
        exact hall t (List.mem_of_getElem? (i := j) (Array.getElem?_toList.trans ht))⟩)
    (by kernel_rfl)

end Go.Proofs.YtpiflikblpfgoaaDoor

