/- The reach of what came in. -/
import Derived.Test.YtlddeagolhdieaaRowKit
import Derived.SizedLaws
namespace Go.Proofs.Ytlddeagolhdieaa
open Go.ChangeShapes Go.WideShapes Go.RowKit

theorem mem_weights {H : Type} {P : Program} {ts : List TypeId} {ds : List (DataW H)} (h : (DataW.weightsEach P ts ds).all (· ≤ reachBytes) = true) {j : Nat} {t : TypeId} {d : DataW H} (ht : ts[j]? = some t) (hd : ds[j]? = some d) : ∀ n ∈ d.weights P t, n ≤ 140737488351232 := by
  intro n hn
  have : n ≤ reachBytes := of_decide_eq_true (List.all_eq_true.1 h n (DataW.weights_mem_each ht hd n hn))
  exact this
end Go.Proofs.Ytlddeagolhdieaa
