/- dragomanref17.Numbers, Same; message.Above. -/
import Derived.Test.YtbapifbahhjfgaaMsgForm
import Derived.Deep.RegionWith
namespace Go.Proofs.Ytbapifbahhjfgaa
open Go.RowKit

def Msg.ns (m : Msg) : List Value := [.int .i64 (m.n 0), .int .i64 (m.n 1), .int .i64 (m.n 2), .int .i64 (m.n 3), .int .i64 (m.n 4), .int .i64 (m.n 5), .int .i64 (m.n 6), .int .i64 (m.n 7), .int .i64 (m.n 8), .int .i64 (m.n 9), .int .i64 (m.n 10), .int .i64 (m.n 11), .int .i64 (m.n 12), .int .i64 (m.n 13), .int .i64 (m.n 14)]
theorem ns_at (m : Msg) (k : Nat) (hk : k < 15) : m.ns[k]? = some (.int .i64 (m.n k)) := by
  have : k = 0 ∨ k = 1 ∨ k = 2 ∨ k = 3 ∨ k = 4 ∨ k = 5 ∨ k = 6 ∨ k = 7 ∨ k = 8 ∨ k = 9 ∨ k = 10 ∨ k = 11 ∨ k = 12 ∨ k = 13 ∨ k = 14 := by omega
  rcases this with rfl | rfl | rfl | rfl | rfl | rfl | rfl | rfl | rfl | rfl | rfl | rfl | rfl | rfl | rfl <;> rfl

set_option maxRecDepth 100000 in
set_option maxHeartbeats 4000000 in
theorem refNumbers_any (m : Msg) (A : Option Addr) (c : Nat) (w : World) :
    Calls Try.prog 33 #[m.val (.slice A m.ents.length c)] w fun e w' => ∃ q, e = .returned (.slice (some ⟨q, 0, none⟩) 15 15) ∧ w.heap.size ≤ q ∧ q < w'.heap.size ∧ (∀ k, k < 15 → w'.cell? ⟨q, k, none⟩ = some (.int .i64 (m.n k))) ∧ Below w.heap.size w w' := by
  have hm0 : MB (w.alloc (.cells (m.cells (.slice A m.ents.length c)).toArray TM)) w.heap.size m (.slice A m.ents.length c) := heap_alloc_new w _
  have c1 := hm0.cell 1 _ rfl
  have c2 := hm0.cell 2 _ rfl
  have c3 := hm0.cell 3 _ rfl
  have c4 := hm0.cell 4 _ rfl
  have c5 := hm0.cell 5 _ rfl
  have c6 := hm0.cell 6 _ rfl
  have c7 := hm0.cell 7 _ rfl
  have c10 := hm0.cell 10 _ rfl
  have c11 := hm0.cell 11 _ rfl
  have c13 := hm0.cell 13 _ rfl
  have c14 := hm0.cell 14 _ rfl
  have c15 := hm0.cell 15 _ rfl
  have c16 := hm0.cell 16 _ rfl
  have c17 := hm0.cell 17 _ rfl
  have c18 := hm0.cell 18 _ rfl
  have hB := below_new w (.cells (m.cells (.slice A m.ents.length c)).toArray TM)
  have HB := Lib.hid hB
  clear hm0 hB
  simp only [Msg.val, Msg.cells] at c1 c2 c3 c4 c5 c6 c7 c10 c11 c13 c14 c15 c16 c17 c18 HB ⊢
  go_enter Try.func33, Try.ntmps33
  go_wp2
  go_ret
  refine ⟨w.heap.size + 1, rfl, by omega, by simp, fun k hk => ?_, ?_⟩
  · have h2 := heap_alloc_new (w.alloc (.cells (m.cells (.slice A m.ents.length c)).toArray TM)) (.cells m.ns.toArray 3)
    rw [World.size_alloc] at h2
    refine (cell_of_row _ _ k _ _ _ h2).trans ?_
    simpa using ns_at m k hk
  · exact below_then HB.out (below_new _ _) (Nat.le_refl _)

/-- alike messages -/
structure Msg.Eqv (a b : Msg) : Prop where
  n : ∀ k, k < 15 → a.n k = b.n k
  kind : a.kind = b.kind
  good : a.good = b.good
  op : a.op = b.op
  err : a.err = b.err
  leader : a.leader = b.leader
  data : a.data = b.data
  ents : a.ents = b.ents

def Sames (a b : Msg) (e : Ending) : Prop := (e = .returned (.bool true) ∧ a.Eqv b) ∨ (e = .returned (.bool false) ∧ ¬ a.Eqv b)

theorem run_load_row {P : Program} {w : World} {a : Act} {o : Oper} (ty : TypeId) (x : Operand) (ho : o.op = .load ty x)
    (g : Nat) (hx : a.eval x = .pointer (some ⟨g, 0, none⟩)) (t : TypeId) (cs : Array Value) (fr : Nat × Nat) (d : TypeDesc) (hg : w.heap[g]? = some (.cells cs t fr))
    (hu : P.underlying ty = some d) (hd : (match d with | .struct _ | .array _ _ => true | _ => false) = true) (hi : (P.info? ty).map (·.size) = some cs.size) :
    (execOp a.eval o).run P w = .ok (.value (.agg cs)) w := by
  unfold execOp
  simp only [ho, hx, Instr.loadAt, Instr.sureAddr, Sem.run_bind, Sem.run_pure, Result.andThen_ok, run_loadVar_row w g t ty cs fr d hg hu hd hi]

end Go.Proofs.Ytbapifbahhjfgaa
