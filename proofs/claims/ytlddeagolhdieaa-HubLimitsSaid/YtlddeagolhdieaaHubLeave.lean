/- From one contract of the law to the row that says 'leaving' and 'the clock may turn': for a call that starts no goroutine at this input. -/
import Derived.Conc.HoldsTime
import Derived.Conc.LeavingOf
import Derived.SizedLaws
import Derived.Test.YtlddeagolhdieaaRowKit
namespace Go.Proofs.Ytlddeagolhdieaa
open Go.Conc

theorem leaving_of_lone {P : Program} {n : Nat} {m : Machine} {fr : Frame} {w : World} (h : runN P n m = .next (lone fr [] w)) : leavingAtReturn P (lone fr [] w) w (runNT P (n + 1) m #[]).2 :=
  ⟨(alone_of_lone (w' := w) h).2.1, ⟨fun g hg => (by simp [lone] at hg), rfl⟩, (alone_of_lone (w' := w) h).2.2⟩

theorem good_of_calls {P : Program} {f : FuncId} {args : Array Value} {W : World} {R : Value → World → Prop} (noInit : P.inits.idxOf? f = none)
    (h : Calls P f args W fun | .returned v, w' => R v w' | _, _ => False) :
    ∃ M last o w' t', runNT P (M + 1) (solo (G (Frame.enter P f args .normal) []) W) #[] = (.ended o w', t') ∧ runN P M (solo (G (Frame.enter P f args .normal) []) W) = .next last ∧
        step P last = .ended o w' ∧ Conc.Good P R last o w' t' := by
  obtain ⟨n, v, w', fr, hn, hend, hp⟩ := h.done_lone noInit
  exact ⟨n, lone fr [] w', .done v, w', (runNT P (n + 1) (lone (Frame.enter P f args .normal) [] W) #[]).2, Prod.ext (by rw [← hend]; exact runNT_fst _ _ _ #[]) rfl, hn, step_of_runs hn hend,
    v, rfl, hp, fun said => (no_race_of_lone (said := said) P n _ _ hn (by simp [lone]) rfl).2, leaving_of_lone hn⟩
end Go.Proofs.Ytlddeagolhdieaa
