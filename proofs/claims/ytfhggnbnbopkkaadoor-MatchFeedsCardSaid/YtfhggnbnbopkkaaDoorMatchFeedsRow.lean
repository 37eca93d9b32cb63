/- The statement MatchFeeds: at every input the law returns true, and what was there stays as it was. -/
import Derived.Test.YtfhggnbnbopkkaaDoorRowKit
import Derived.Test.YtfhggnbnbopkkaaDoorNfaRowKit
import Derived.Test.YtfhggnbnbopkkaaDoorTie
import Derived.Test.YtfhggnbnbopkkaaDoorCards
import Derived.SevenTiedAt
import Derived.Test.YtfhggnbnbopkkaaDoorMatFeeds
import Derived.Test.YtfhggnbnbopkkaaDoorMatRow
namespace Go.Proofs.YtfhggnbnbopkkaaDoor
open Go.ChangeShapes Go.WideShapes Go.ChangeAt Go.RowKit
open Go.ChangeMaps (open_string)

set_option maxRecDepth 100000 in
theorem matchFeeds_lifted (os : Os) (started : os.Started) (H : Type) (enc : TypeId × Value → H) :
    ReturnsInHanded {} Tryd.checked os 6 .any (fun w args => (Rows.matchFeedsSpec.pre enc Tryd.prog Tryd.f6 [] false w args ∧ laidMetH Tryd.prog laidL w) ∧ sizedMet enc Tryd.prog Tryd.f6 (OpenSpec.ofChange Rows.matchFeedsSpec) false w args)
      (Rows.matchFeedsSpec.post enc Tryd.prog Tryd.f6 false true false false) := by
  refine returnsInHanded_of_change_and (C := Tryd.checked) (X := fun w _ => laidMetH Tryd.prog laidL w) (fun _ _ _ hh h => h.of_heap hh) law_own started (by kernel_rfl) Tryd.func6
    (ChangeSpec.witness_shaped (enc := enc) (C := Tryd.checked) (os := os) (X := fun w _ => laidMetH Tryd.prog laidL w) false (World.doorLaid Tryd.prog 14 os) #[.slice none 0 0, .slice none 0 0] 8 rfl (World.shaped_of_RefB (by kernel_rfl) (by kernel_rfl)) (by kernel_rfl) (by kernel_rfl) (by kernel_rfl) (door_met os _)) ?_
  intro W base args ds gs before hval0 hW hcnd hsz0 hL _
  have hsz : (DataW.weightsEach Tryd.prog (Tryd.f6.params.toList ++ Rows.matchFeedsSpec.plain.varTypes Tryd.prog) (ds ++ gs)).all (· ≤ reachBytes) = true := hsz0
  have hval : ∀ (j : Nat) t v, Tryd.f6.params[j]? = some t → args[j]? = some v → Value.okWide Tryd.prog W .any base t v := hval0
  have hT := tab_of_laid hL
  have hW' := hW
  obtain ⟨p, q, hA0, hV, rfl, hfz, hnd⟩ := hW
  have hA : DataW.TrodAll enc Tryd.prog W 0 (fun _ => true) true Tryd.f6.params.toList args.toList ds p := hA0
  rw [Tryd.params6] at hA hval hsz
  obtain ⟨v0, vs0, d0, ds0, p0, q0, hargs, rfl, rfl, k0, r0⟩ := trodAll_cons hA
  obtain ⟨v1, vs1, d1, ds1, p1, q1, rfl, rfl, rfl, k1, r1⟩ := trodAll_cons r0
  obtain ⟨rfl, rfl, rfl⟩ := trodAll_nil r1
  obtain rfl : args = #[v0, v1] := by cases args; simp_all
  obtain ⟨rfl, rfl⟩ := trodVars_none hV
  obtain ⟨A0, c0, l0, rfl, h0, hn0⟩ := open_pats (hval 0 22 v0 rfl rfl) k0
  obtain ⟨A1, c1, l1, rfl, h1, hs1, hn1⟩ := open_strs (hval 1 30 v1 rfl rfl) k1 (mem_weights hsz (j := 1) rfl rfl)
  refine (matchFeeds_walk A0 c0 l0 A1 c1 l1 W h0 h1 hn0 hn1 hs1 hT).mono fun e W' ⟨he, hg⟩ => ?_
  subst he
  exact ⟨_, rfl, post_law law_laidOut rfl rfl Tryd.underlying4 (by kernel_rfl) hW' rfl hg⟩

/-- the statement -/
theorem matchFeeds_holds : Rows.MatchFeedsSaid :=
  OpenClaim.holds_of_wide 6 Tryd.f6 rfl rfl rfl rfl rfl rfl rfl ⟨rfl, rfl, rfl, rfl, rfl⟩ rfl rfl rfl rfl rfl (by kernel_rfl) Tryd.func6 (by kernel_rfl)
    (of_decide_eq_true (by kernel_rfl)) (by unfold Func.isWrapper; first | (rw [if_pos (by decide +kernel)]; kernel_rfl) | (rw [if_neg (by decide +kernel)]; exact ⟨rfl, rfl⟩))
    (fun os started H enc _ => matchFeeds_lifted os started H enc)

/-- the card -/
theorem matchFeeds_card : Rows.MatchFeedsCardSaid :=
  Claim7.holds_tied_plain_at .later [] [.data] true (true, "b84407cb6b3f3f99cc40042b318d6ad33b78c4e2b0910b53004719c4157f66e7") true
    matchFeeds_holds (fun _ h => by cases h) (by kernel_rfl) (fun _ h => by cases h) matchFeeds_row_tie rfl ⟨rfl, rfl⟩ (by kernel_rfl) rfl
    (fun f fn hf hfn => by
      obtain rfl : f = 6 := Option.some.inj ((show Tryd.prog.funcNamed "dragoman/dragomanlaw11.MatchFeeds" = some 6 by kernel_rfl).symm.trans hf) |>.symm
      obtain rfl : fn = Tryd.f6 := (Option.some.inj (Tryd.func6.symm.trans hfn)).symm
      exact ⟨by kernel_rfl, fun j t ht => by
        have hall : ∀ t ∈ Tryd.f6.params.toList, Tryd.prog.wantsStandIn t = false := by
          rw [Tryd.params6]
          simp only [List.mem_cons, List.not_mem_nil, or_false, forall_eq_or_imp, forall_eq]
          repeat' apply And.intro
          all_goals kernel_rfl
        exact hall t (List.mem_of_getElem? (i := j) (Array.getElem?_toList.trans ht))⟩)
    (by kernel_rfl)

end Go.Proofs.YtfhggnbnbopkkaaDoor

