/- The statement MatchNames: at every input the law returns true, and what was there stays as it was. -/
import Derived.Test.YtfhggnbnbopkkaaDoorRowKit
import Derived.Test.YtfhggnbnbopkkaaDoorNfaRowKit
import Derived.Test.YtfhggnbnbopkkaaDoorTie
import Derived.Test.YtfhggnbnbopkkaaDoorCards
import Derived.SevenTiedAt
import Derived.Test.YtfhggnbnbopkkaaDoorMatNames
import Derived.Test.YtfhggnbnbopkkaaDoorRowPat
namespace Go.Proofs.YtfhggnbnbopkkaaDoor
open Go.ChangeShapes Go.WideShapes Go.ChangeAt Go.RowKit
open Go.ChangeMaps (open_string)

set_option maxRecDepth 100000 in
theorem matchNames_lifted (os : Os) (started : os.Started) (H : Type) (enc : TypeId × Value → H) :
    ReturnsInHanded {} Tryd.checked os 11 .any (fun w args => (Rows.matchNamesSpec.pre enc Tryd.prog Tryd.f11 [] false w args ∧ laidMetH Tryd.prog laidL w) ∧ sizedMet enc Tryd.prog Tryd.f11 (OpenSpec.ofChange Rows.matchNamesSpec) false w args)
      (Rows.matchNamesSpec.post enc Tryd.prog Tryd.f11 false true false false) := by
  refine returnsInHanded_of_change_and (C := Tryd.checked) (X := fun w _ => laidMetH Tryd.prog laidL w) (fun _ _ _ hh h => h.of_heap hh) law_own started (by kernel_rfl) Tryd.func11
    (ChangeSpec.witness_shaped (enc := enc) (C := Tryd.checked) (os := os) (X := fun w _ => laidMetH Tryd.prog laidL w) false (World.doorLaid Tryd.prog 14 os) #[] 8 rfl (World.shaped_of_RefB (by kernel_rfl) (by kernel_rfl)) (by kernel_rfl) (by kernel_rfl) (by kernel_rfl) (door_met os _)) ?_
  intro W base args ds gs before _ hW hcnd hsz0 hL _
  have hsz : (DataW.weightsEach Tryd.prog (Tryd.f11.params.toList ++ Rows.matchNamesSpec.plain.varTypes Tryd.prog) (ds ++ gs)).all (· ≤ reachBytes) = true := hsz0
  have hT := tab_of_laid hL
  have hW' := hW
  obtain ⟨p, q, hA0, hV, rfl, hfz, hnd⟩ := hW
  have hA : DataW.TrodAll enc Tryd.prog W 0 (fun _ => true) true Tryd.f11.params.toList args.toList ds p := hA0
  rw [Tryd.params11] at hA hsz
  obtain ⟨hargs, rfl, rfl⟩ := trodAll_nil hA
  obtain rfl : args = #[] := by cases args; simp_all
  obtain ⟨rfl, rfl⟩ := trodVars_none hV
  refine (matchNames_walk W hT).mono fun e W' ⟨he, hg⟩ => ?_
  subst he
  exact ⟨_, rfl, post_law law_laidOut rfl rfl Tryd.underlying4 (by kernel_rfl) hW' rfl hg⟩

/-- the statement -/
theorem matchNames_holds : Rows.MatchNamesSaid :=
  OpenClaim.holds_of_wide 11 Tryd.f11 rfl rfl rfl rfl rfl rfl rfl ⟨rfl, rfl, rfl, rfl, rfl⟩ rfl rfl rfl rfl rfl (by kernel_rfl) Tryd.func11 (by kernel_rfl)
    (of_decide_eq_true (by kernel_rfl)) (by unfold Func.isWrapper; first | (rw [if_pos (by decide +kernel)]; kernel_rfl) | (rw [if_neg (by decide +kernel)]; exact ⟨rfl, rfl⟩))
    (fun os started H enc _ => matchNames_lifted os started H enc)

/-- the card -/
theorem matchNames_card : Rows.MatchNamesCardSaid :=
  Claim7.holds_tied_plain_at .later [] [.data] true (true, "b84407cb6b3f3f99cc40042b318d6ad33b78c4e2b0910b53004719c4157f66e7") true
    matchNames_holds (fun _ h => by cases h) (by kernel_rfl) (fun _ h => by cases h) matchNames_row_tie rfl ⟨rfl, rfl⟩ (by kernel_rfl) rfl
    (fun f fn hf hfn => by
      obtain rfl : f = 11 := Option.some.inj ((show Tryd.prog.funcNamed "dragoman/dragomanlaw11.MatchNames" = some 11 by kernel_rfl).symm.trans hf) |>.symm
      obtain rfl : fn = Tryd.f11 := (Option.some.inj (Tryd.func11.symm.trans hfn)).symm
      exact ⟨by kernel_rfl, fun j t ht => by
        have hall : ∀ t ∈ Tryd.f11.params.toList, Tryd.prog.wantsStandIn t = false := by
          rw [Tryd.params11]
          simp only [List.not_mem_nil, false_implies, implies_true]
          repeat' apply And.intro
          all_goals kernel_rfl
        exact hall t (List.mem_of_getElem? (i := j) (Array.getElem?_toList.trans ht))⟩)
    (by kernel_rfl)

end Go.Proofs.YtfhggnbnbopkkaaDoor

