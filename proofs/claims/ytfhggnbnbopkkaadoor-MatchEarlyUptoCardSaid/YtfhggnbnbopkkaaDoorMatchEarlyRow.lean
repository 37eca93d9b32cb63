/- The statement MatchEarly: at every input the law returns true, and what was there stays as it was. -/
import Derived.Test.YtfhggnbnbopkkaaDoorRowKit
import Derived.Test.YtfhggnbnbopkkaaDoorNfaRowKit
import Derived.Test.YtfhggnbnbopkkaaDoorTie
import Derived.Test.YtfhggnbnbopkkaaDoorCards
import Derived.SevenTiedAt
import Derived.OpenShut
import Derived.Deep.DeepHandedRow
import Derived.Deep.DeepWitnessRowRef
import Derived.Test.YtfhggnbnbopkkaaDoorMatEarly
import Derived.Test.YtfhggnbnbopkkaaDoorMatRow
namespace Go.Proofs.YtfhggnbnbopkkaaDoor
open Go.ChangeShapes Go.WideShapes Go.ChangeAt Go.RowKit
open Go.ChangeMaps (open_string)

set_option maxRecDepth 100000 in
theorem matchEarly_lifted (os : Os) (started : os.Started) (H : Type) (enc : TypeId × Value → H) (SI : Stop.Interp) :
    ReturnsInHanded {} Tryd.checked os 9 .any ((Rows.OpenSpec.upto Rows.matchEarlySpec).preRow enc Tryd.prog Tryd.f9 Rows.matchEarlyUptoRow.domain false laidL) (((Rows.OpenSpec.upto Rows.matchEarlySpec).at SI).post enc Tryd.prog Tryd.f9 false true false false) := by
  obtain ⟨places, hx⟩ : ∃ places, DataW.whole enc Tryd.prog ((World.doorLaid Tryd.prog 14 os).forCall (fun _ _ => 0) ⟨#[], #[.slice none 0 0, .string ByteArray.empty, .string ByteArray.empty], []⟩).memory Tryd.f9.params.toList Rows.matchEarlySpec.vars false (#[.slice none 0 0, .string ByteArray.empty, .string ByteArray.empty] : Array Value).toList 8 = some ([.nil, .lit (.string []), .lit (.string [])], [], places) := ⟨[], by kernel_rfl⟩
  refine returnsInHanded_of_row (C := Tryd.checked) (s := Rows.OpenSpec.upto Rows.matchEarlySpec) law_own started (by kernel_rfl) Tryd.func9
    (witness_row_atRef (enc := enc) (C := Tryd.checked) false (World.doorLaid Tryd.prog 14 os) #[.slice none 0 0, .string ByteArray.empty, .string ByteArray.empty] rfl (by kernel_rfl) (by kernel_rfl) (by kernel_rfl)
      (OpenSpec.preRow_of_cond 8 hx (by kernel_rfl) (fun k hk => by cases hk; kernel_rfl) (by kernel_rfl) (door_met os _))) ?_
  intro W base args ds gs before hval0 hW _ hcond hsz0 hL _ _
  have hk := of_decide_eq_true (hcond _ rfl)
  have hsz : (DataW.weightsEach Tryd.prog (Tryd.f9.params.toList ++ Rows.matchEarlySpec.plain.varTypes Tryd.prog) (ds ++ gs)).all (· ≤ reachBytes) = true := hsz0
  have hval : ∀ (j : Nat) t v, Tryd.f9.params[j]? = some t → args[j]? = some v → Value.okWide Tryd.prog W .any base t v := hval0
  have hT := tab_of_laid hL
  have hW' := hW
  obtain ⟨p, q, hA0, hV, rfl, hfz, hnd⟩ := hW
  have hA : DataW.TrodAll enc Tryd.prog W 0 (fun _ => true) true Tryd.f9.params.toList args.toList ds p := hA0
  rw [Tryd.params9] at hA hval hsz
  obtain ⟨v0, vs0, d0, ds0, p0, q0, hargs, rfl, rfl, k0, r0⟩ := trodAll_cons hA
  obtain ⟨v1, vs1, d1, ds1, p1, q1, rfl, rfl, rfl, k1, r1⟩ := trodAll_cons r0
  obtain ⟨v2, vs2, d2, ds2, p2, q2, rfl, rfl, rfl, k2, r2⟩ := trodAll_cons r1
  obtain ⟨rfl, rfl, rfl⟩ := trodAll_nil r2
  obtain rfl : args = #[v0, v1, v2] := by cases args; simp_all
  obtain ⟨rfl, rfl⟩ := trodVars_none hV
  obtain ⟨A0, c0, l0, rfl, h0, hn0⟩ := open_pats (hval 0 22 v0 rfl rfl) k0
  obtain ⟨a1, rfl, rfl, rfl, h1⟩ := open_string Tryd.underlying9 (hval 1 9 v1 rfl rfl) k1
  replace h1 := str_weight (mem_weights hsz (j := 1) rfl rfl)
  obtain ⟨a2, rfl, rfl, rfl, h2⟩ := open_string Tryd.underlying9 (hval 2 9 v2 rfl rfl) k2
  replace h2 := str_weight (mem_weights hsz (j := 2) rfl rfl)
  simp only [List.cons_append, List.nil_append, Rows.uptoBulkAll, Rows.uptoBulk] at hk
  refine (matchEarly_walk A0 c0 l0 a1 a2 W h0 hn0 (by have e : a1.data.toList.length = a1.size := rfl; omega) (by have e : a2.data.toList.length = a2.size := rfl; omega) hT).mono fun e W' ⟨he, hg⟩ => ?_
  subst he
  exact ⟨_, rfl, post_law law_laidOut rfl rfl Tryd.underlying4 (by kernel_rfl) hW' rfl hg⟩

/-- the statement -/
theorem matchEarly_holds : Rows.MatchEarlyUptoSaid :=
  OpenClaim.holds_of_cond 9 Tryd.f9 rfl rfl rfl rfl rfl rfl rfl ⟨rfl, rfl, rfl, rfl, rfl⟩ rfl rfl rfl rfl rfl (by kernel_rfl) Tryd.func9 (by kernel_rfl)
    (of_decide_eq_true (by kernel_rfl)) (by unfold Func.isWrapper; first | (rw [if_pos (by decide +kernel)]; kernel_rfl) | (rw [if_neg (by decide +kernel)]; exact ⟨rfl, rfl⟩))
    (fun os started H enc _ SI => by rw [OpenClaim.pre_eq_preRow]; exact matchEarly_lifted os started H enc SI)

/-- the card -/
theorem matchEarly_card : Rows.MatchEarlyUptoCardSaid :=
  Claim7.holds_tied_plain_at .later [] [.data] true (true, "b84407cb6b3f3f99cc40042b318d6ad33b78c4e2b0910b53004719c4157f66e7") true
    matchEarly_holds (fun _ h => by cases h) (by kernel_rfl) (fun _ h => by cases h) matchEarlyUpto_row_tie rfl ⟨rfl, rfl⟩ (by kernel_rfl) rfl
    (fun f fn hf hfn => by
      obtain rfl : f = 9 := Option.some.inj ((show Tryd.prog.funcNamed "dragoman/dragomanlaw11.MatchEarly" = some 9 by kernel_rfl).symm.trans hf) |>.symm
      obtain rfl : fn = Tryd.f9 := (Option.some.inj (Tryd.func9.symm.trans hfn)).symm
      exact ⟨by kernel_rfl, fun j t ht => by
        have hall : ∀ t ∈ Tryd.f9.params.toList, Tryd.prog.wantsStandIn t = false := by
          rw [Tryd.params9]
          simp only [List.mem_cons, List.not_mem_nil, or_false, forall_eq_or_imp, forall_eq]
          repeat' apply And.intro
          all_goals kernel_rfl
        exact hall t (List.mem_of_getElem? (i := j) (Array.getElem?_toList.trans ht))⟩)
    (by kernel_rfl)

end Go.Proofs.YtfhggnbnbopkkaaDoor


