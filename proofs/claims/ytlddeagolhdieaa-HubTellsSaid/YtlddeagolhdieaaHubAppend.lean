/- Happenings that came in, or lie somewhere, behind an own row. -/
import Derived.Test.YtlddeagolhdieaaHubRefClose
namespace Go.Proofs.Ytlddeagolhdieaa
open Go.RowKit Go.MuLone Go.Conc

set_option maxRecDepth 100000
set_option maxHeartbeats 4000000
theorem wpList_append_any {ops : Array Oper} {rest : List Oper} {o : Oper} {a : Act} {w : World} {Q : Exit → Act → World → Prop} (hgd : o.guard = none) (s x : Operand) (ho : o.op = .call { callee := .builtin .append, args := #[s, x], argTypes := #[THs, THs] })
    (B : Nat) (hB : B ≤ w.heap.size) (v : Value) (n : Nat) (xs : List Value) (hs : a.eval s = v) (hown : w.ownsRow B THp 3 v n xs) (A : Option Addr) (m : List Hap) (c : Nat) (hx : a.eval x = .slice A m.length c) (hin : HIn w A m) (hn : n + m.length ≤ 4398046511104)
    (h : ∀ v' w2, w2.ownsRow B THp 3 v' (n + m.length) (xs ++ hapsC m) → w.grownBy w2 v.ownBlock → (v'.ownBlock = v.ownBlock ∨ v'.ownBlock = some w.heap.size) → wpList Try.prog ops Q rest (a.put o.dst v') w2) : wpList Try.prog ops Q (o :: rest) a w := by
  obtain ⟨i0, hi, hz0, hz1, hz2⟩ := info_parts info_hap
  rcases A with _ | ad
  · obtain rfl := hin.nil rfl
    refine wpList_append_none hgd s x ho B n c v xs hs hown hx ?_
    exact h v w (by rw [show hapsC [] = [] from rfl, List.append_nil]; exact hown) ⟨rfl, rfl, rfl, Nat.le_refl _, fun _ _ _ => rfl⟩ (.inl rfl)
  · obtain ⟨A0, c0, rfl⟩ := own_slice hown
    refine wpList_append_own_at _ hgd s x THs ho B THp i0 _ 3 32 Try.underlying27 hi hz0 hz1 hz2 rfl (by decide) (.slice A0 n c0) n xs hs hown ad m.length c (hapsC m) hx (hapsC_len m) (hin.at' ad rfl).2 (hapsC_one m) (by unfold maxLen; omega) (by omega) hB ?_
    intro v' w2 h1 h2 _ h4
    exact h v' w2 h1 h2 h4
end Go.Proofs.Ytlddeagolhdieaa
