/- A region that draws its order, whose own operations only read, whose callees may make memory of their own: one walk. -/
import Derived.Test.YtlddeagolhdieaaRows
import Derived.WalkKit
import Derived.BigQuiet
namespace Go.Proofs.Ytlddeagolhdieaa
open Go.RowKit

/-- the worlds in which nothing of w is turned -/
structure After (w : World) where
  W : World
  up : Below w.heap.size w W
instance (w : World) : Nonempty (After w) := ⟨⟨w, Below.refl _ _⟩⟩
instance (w : World) : Inhabited (After w) := ⟨⟨w, Below.refl _ _⟩⟩
theorem After.cell {w : World} {a : Addr} {v : Value} (h : w.cell? a = some v) (p : After w) : p.W.cell? a = some v := (p.up.cell (World.block_lt_of_cell? w _ h)).trans h
theorem wp_region_after {P : Program} {id : Nat} {Q : Exit → Act → World → Prop} {a : Act} {w : World} {l : List Oper} (hm : P.follows .mixedOrders = true) (hB : Region.lexB .any l.toArray = true)
    (h : wpQuiet P l.toArray (fun w' => ∃ p : After w, w' = p.W) (fun a' => ∀ w', (∃ p : After w, w' = p.W) → Q .normal a' w') l a) : (Code.region id l.toArray true).wp P Q a w :=
  wp_region_quiet (C := fun w' => ∃ p : After w, w' = p.W) hm hB ⟨⟨{ w with drawn := w.drawn + 1 }, ⟨rfl, rfl, rfl, Nat.le_refl _, fun _ _ => rfl⟩⟩, rfl⟩ (by simpa using h)
theorem Calls.after {P : Program} {f : FuncId} {args : Array Value} {w : World} {v : Value} (h : ∀ W, Below w.heap.size w W → Calls P f args W fun e w' => e = .returned v ∧ Below W.heap.size W w') (p : After w) :
    Calls P f args p.W fun e w'' => e = .returned v ∧ ∃ q : After w, w'' = q.W :=
  (h p.W p.up).mono fun _ w' ⟨he, hb⟩ => ⟨he, ⟨w', p.up.trans (hb.mono p.up.size)⟩, rfl⟩
end Go.Proofs.Ytlddeagolhdieaa
