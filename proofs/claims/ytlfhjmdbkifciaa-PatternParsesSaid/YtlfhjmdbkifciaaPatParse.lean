/- Parse: the walk, with its deferred closure. -/
import Derived.Test.YtlfhjmdbkifciaaPatPMath
import Derived.Test.YtlfhjmdbkifciaaPatUnq2
namespace Go.Proofs.Ytlfhjmdbkifciaa
open Go.RowKit PM

def zP : Array Value := #[.int .i64 0, .string ⟨#[]⟩]

set_option maxRecDepth 100000 in
set_option maxHeartbeats 4000000 in
theorem parseCatch_some (b : Nat) (k : Nat) (old : Array Value) (w : World) (hb : w.heap[b]? = some (.cells old TPat (0, 0))) (hs : w.heap[b + 1]? = some (.cells (spotC 0 0) TSp (0, 0))) (ho : old.size = 2) :
    CallsD Try.prog 39 #[.pointer (some ⟨b, 0, none⟩), .pointer (some ⟨b + 1, 0, none⟩)] (.panicking (wrongP k)) w fun e u' w' =>
      e = .returned (.tuple #[]) ∧ u' = .panicking [{ v := .iface TWr (.int .i64 k), recovered := true }] ∧ w' = (w.setRow b zP).setRow (b + 1) (spotC 6 k) := by
  refine callsD_of_wpS Try.func39 rfl fun c₀ cs hu => ?_
  unfold wrongP at hu
  have hta := assert_wrong k
  apply wpS_seq
  apply wpS_region
  simp [wpOpsS, go_sem, recoverD, hu, Try.ntmps39, Exit.thenS, hta]
  refine wpS_of_wp ?_
  simp only [Array.replicate_succ, Array.replicate_zero, List.push_toArray, List.append_toArray, List.nil_append, List.cons_append, List.setIfInBounds_toArray, List.set_cons_zero, List.set_cons_succ]
  have h2 : (w.setRow b zP).heap[b + 1]? = some (.cells (spotC 0 0) TSp (0, 0)) := (setRow_other _ _ _ _ (by omega)).trans hs
  obtain ⟨c0, c1, rfl⟩ : ∃ c0 c1, old = #[c0, c1] := by
    match old, ho with
    | ⟨[c0, c1]⟩, _ => exact ⟨c0, c1, rfl⟩
  have HB := Lib.hid hb; have HS := Lib.hid h2; have HU := Lib.hid hu
  clear hb hs h2 hu ho hta
  go_wp2_with (first | (refine wpList_store_row rfl TPat (.tmp 0) (.tmp 10) rfl b zP rfl rfl TPat _ HB.out (by kernel_rfl) rfl (by simp [zP, Value.oneCell']) ?_; change wpList _ _ _ _ _ (w.setRow b zP)) | (refine wpList_store_row rfl TSp (.tmp 1) (.tmp 12) rfl (b + 1) (spotC 6 k) rfl rfl TSp (spotC 0 0) HS.out (by kernel_rfl) rfl (by simp [spotC, Value.oneCell']) ?_))
  simp [bodyPostS, results, Try.results39, go_sem]

set_option maxRecDepth 100000 in
set_option maxHeartbeats 4000000 in
theorem parseCatch_idle (b : Nat) (w : World) :
    CallsD Try.prog 39 #[.pointer (some ⟨b, 0, none⟩), .pointer (some ⟨b + 1, 0, none⟩)] .returning w fun e u' w' => e = .returned (.tuple #[]) ∧ u' = .returning ∧ w' = w := by
  refine callsD_of_wpS Try.func39 rfl fun c₀ cs hu => ?_
  have hta := assert_none
  apply wpS_seq
  apply wpS_region
  simp [wpOpsS, go_sem, recoverD, hu, Try.ntmps39, Exit.thenS, hta]
  refine wpS_of_wp ?_
  simp only [Array.replicate_succ, Array.replicate_zero, List.push_toArray, List.append_toArray, List.nil_append, List.cons_append, List.setIfInBounds_toArray, List.set_cons_zero, List.set_cons_succ]
  clear hta
  have HU := Lib.hid hu
  clear hu
  go_wp2_with fail
  have hu := HU.out
  cases c₀
  simp_all [bodyPostS, results, Try.results39, go_sem]

def parseD (b : Nat) : Deferred := { target := .fn (.func 39) #[.pointer (some ⟨b, 0, none⟩), .pointer (some ⟨b + 1, 0, none⟩)], args := #[] }
set_option maxRecDepth 100000 in
theorem size_infoP (X : Array Value) (h : X.size = 2) : (Try.prog.info? TPat).map (·.size) = some X.size := by rw [h]; kernel_rfl
theorem load_pat (W : World) (b : Nat) (X : Array Value) (h : W.heap[b]? = some (.cells X TPat (0, 0))) (hX : X.size = 2) : (loadVar TPat ⟨b, 0, none⟩).run Try.prog W = .ok (.agg X) W := run_loadVar_row W b TPat TPat X (0, 0) _ h Try.underlying23 rfl (size_infoP X hX)

theorem parse_door {W : World} {R : Ending → World → Prop} {tmps : Array Value} {X Y : Array Value} (b : Nat) (h2 : tmps.getD 2 undef = .pointer (some ⟨b, 0, none⟩)) (h3 : tmps.getD 3 undef = .pointer (some ⟨b + 1, 0, none⟩))
    (hX : W.heap[b]? = some (.cells X TPat (0, 0))) (hX6 : X.size = 2) (hY : W.heap[b + 1]? = some (.cells Y TSp (0, 0))) (hY2 : Y.size = 2) (hR : R (.returned (.tuple #[.agg X, .agg Y])) W) :
    bodyPostD Try.prog Try.f18 R .ret { tmps := tmps, defers := [parseD b] } W := by
  refine leaves_cons (f := 39) (args := #[.pointer (some ⟨b, 0, none⟩), .pointer (some ⟨b + 1, 0, none⟩)]) (by simp) (by simp [go_sem]) ?_
  refine (parseCatch_idle b W).mono ?_
  rintro e u' w'' ⟨rfl, rfl, rfl⟩
  exact ⟨_, results_rows2 rfl _ _ b (b + 1) _ _ h2 h3 (load_pat _ b X hX hX6) (load_spot _ (b + 1) Y hY hY2), hR⟩

theorem parse_door_bad {W : World} {R : Ending → World → Prop} {tmps : Array Value} {X : Array Value} (b k : Nat) (h2 : tmps.getD 2 undef = .pointer (some ⟨b, 0, none⟩)) (h3 : tmps.getD 3 undef = .pointer (some ⟨b + 1, 0, none⟩))
    (hX : W.heap[b]? = some (.cells X TPat (0, 0))) (hX6 : X.size = 2) (hY : W.heap[b + 1]? = some (.cells (spotC 0 0) TSp (0, 0))) (hR : R (.returned (.tuple #[.agg zP, spotV 6 k])) ((W.setRow b zP).setRow (b + 1) (spotC 6 k))) :
    bodyPostD Try.prog Try.f18 R (.panic (wrongP k)) { tmps := tmps, defers := [parseD b] } W := by
  refine leaves_cons (f := 39) (args := #[.pointer (some ⟨b, 0, none⟩), .pointer (some ⟨b + 1, 0, none⟩)]) (by simp) (by simp [go_sem]) ?_
  refine (parseCatch_some b k X W hX hY hX6).mono ?_
  rintro e u' w'' ⟨rfl, rfl, rfl⟩
  have e1 := setRow_heap _ _ _ zP _ _ hX
  have e2 : ((W.setRow b zP).setRow (b + 1) (spotC 6 k)).heap[b]? = some (.cells zP TPat (0, 0)) := (setRow_other _ _ _ _ (by omega)).trans e1
  have e3 : ((W.setRow b zP).setRow (b + 1) (spotC 6 k)).heap[b + 1]? = some (.cells (spotC 6 k) TSp (0, 0)) := setRow_heap _ _ _ _ _ _ ((setRow_other _ _ _ _ (by omega)).trans hY)
  exact ⟨_, results_rows2 rfl _ _ b (b + 1) _ _ h2 h3 (load_pat _ b zP e2 rfl) (load_spot _ (b + 1) (spotC 6 k) e3 rfl), hR⟩
end Go.Proofs.Ytlfhjmdbkifciaa
