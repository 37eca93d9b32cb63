/- A region in a round of a range over a function that defers nothing: walked as one outside. -/
import Derived.RangeFuncNested
import Derived.OrdersIn
import Derived.RegionIn
import Derived.Test.YtcgojpdgcoddnaaRowKit
namespace Go.Proofs.Ytcgojpdgcoddnaa
open Go.RowKit
variable {F : Fence} {n : Nat} {P : Program} {md : Region.Mode} {ops : Array Oper} {Q : Exit → Act → World → Prop}

theorem uponIn_round {o : Oper} {a : Act} {K : Act → World → Prop} {r : Result Next} (l : Nat) (h : o.uponIn F n P a K Q r) : o.uponIn (F.inRound l) n P a K Q r := h

theorem wpOpIn_round (hF : F.round = none) (l : Nat) (hd : ∀ (i : Nat) (o : Oper), ops[i]? = some o → ∀ c, o.op ≠ .defer c) {i : Nat} {K K' : Act → World → Prop} {a : Act} {w : World} (hK : ∀ a w, K a w → K' a w) (h : wpOpIn F n P ops Q i K a w) : wpOpIn (F.inRound l) n P ops Q i K' a w := by
  refine wpOpIn_mono hK ?_
  unfold wpOpIn at h ⊢
  cases hi : ops[i]? with
  | none => simpa only [hi] using h
  | some o =>
    simp only [hi] at h ⊢
    split at h
    · rename_i hw
      rw [if_pos hw]
      refine ⟨h.1, ?_⟩
      have h2 := h.2
      rw [Oper.semAt_eq _ _ _ (hd i o hi)] at h2 ⊢
      exact uponIn_round l h2
    · rename_i hw
      rw [if_neg hw]
      exact h

theorem wpAnyIn_round (hF : F.round = none) (l : Nat) (hd : ∀ (i : Nat) (o : Oper), ops[i]? = some o → ∀ c, o.op ≠ .defer c) : ∀ (fuel : Nat) (listed : Array Bool) (a : Act) (w : World), wpAnyIn F n P md ops Q fuel listed a w → wpAnyIn (F.inRound l) n P md ops Q fuel listed a w
  | 0, _, _, _, h => h
  | fuel + 1, listed, a, w, h => ⟨h.1, fun i hi => wpOpIn_round hF l hd (fun a w => wpAnyIn_round hF l hd fuel _ a w) (h.2 i hi)⟩

def noDefer (ops : Array Oper) : Bool := ops.all fun o => match o.op with | .defer _ => false | _ => true
theorem noDefer_spec (h : noDefer ops = true) (i : Nat) (o : Oper) (hi : ops[i]? = some o) (c : _) : o.op ≠ .defer c := by
  intro e
  have := (Array.all_eq_true_iff_forall_mem.1 h) o (Array.mem_of_getElem? hi)
  rw [e] at this
  cases this

end Go.Proofs.Ytcgojpdgcoddnaa
