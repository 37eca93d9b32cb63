/- The walk of HubLimits. -/
import Derived.Test.YtlddeagolhdieaaHubSpread
import Derived.Laws.MakeOwn
namespace Go.Proofs.Ytlddeagolhdieaa
open Go.RowKit Go.MuLone Go.Conc

set_option maxRecDepth 100000
set_option maxHeartbeats 8000000
def z0 : Hap := ⟨0, ByteArray.empty, 0⟩
theorem zero_get : ∀ (n j : Nat), j < n * 3 → (hapsC (List.replicate n z0))[j]? = some ((#[Value.int .i64 0, .string ByteArray.empty, .int .i64 0])[j % 3]!)
  | 0, j, h => by omega
  | n + 1, j, h => by
    rw [List.replicate_succ, show hapsC (z0 :: List.replicate n z0) = hapC z0 ++ hapsC (List.replicate n z0) from rfl]
    rcases j with _ | _ | _ | j
    · rfl
    · rfl
    · rfl
    · rw [List.getElem?_append_right (by simp [hapC])]
      rw [show j + 1 + 1 + 1 - (hapC z0).length = j by simp [hapC], zero_get n j (by omega), show (j + 1 + 1 + 1) % 3 = j % 3 by omega]
theorem zero_src (w : World) (n b : Nat) (hb : b < w.heap.size) : Src (w.alloc (.cells (madeCells #[.int .i64 0, .string ByteArray.empty, .int .i64 0] (n * 3)) THp)) b (some ⟨w.heap.size, 0, none⟩) (List.replicate n z0) :=
  ⟨fun e => (by cases e), fun ad e => by
    cases e
    refine ⟨fun e => by have e2 : w.heap.size = b := e; omega, fun j u hu => ?_⟩
    have hj : j < n * 3 := by
      have := (List.getElem?_eq_some_iff.1 hu).1
      rw [hapsC_len, List.length_replicate] at this; exact this
    rw [zero_get n j hj] at hu
    cases hu
    rw [Addr.add_lit, Nat.zero_add, cell_of_row _ _ _ _ _ _ (heap_alloc_new w _)]
    simp [madeCells, hj]⟩
theorem make_haps (n : Nat) (m : Int) (hm : m = n) (hn : n ≤ 100000) (w : World) : (Instr.makeSlice THs (.int .i64 m) (.int .i64 m)).run Try.prog w = .ok (.slice (some ⟨w.heap.size, 0, none⟩) n n) (w.alloc (.cells (madeCells #[.int .i64 0, .string ByteArray.empty, .int .i64 0] (n * 3)) THp)) := by
  subst hm
  obtain ⟨i, hi, hz, hs, hb⟩ := info_parts info_hap
  have h := run_make w THs THp i _ Try.underlying27 hi hz .i64 .i64 n n (by omega) (by omega) (by rw [hb]; omega) (by omega)
  rw [hs] at h
  rw [h]
  rfl
theorem info_haps : (Try.prog.info? THs).map (fun i => (i.zero, i.size, i.bytes)) = some (some (.slice none 0 0), 1, 24) := by kernel_rfl
theorem info_wat : (Try.prog.info? 92).map (fun i => (i.zero, i.size, i.bytes)) = some (some (.agg #[.int .i64 0, .int .i64 0]), 2, 16) := by kernel_rfl
theorem make_nine : ∃ o, ∀ w : World, (Instr.makeSlice 56 (.int .i64 9) (.int .i64 9)).run Try.prog w = .ok (.slice (some ⟨w.heap.size, 0, none⟩) 9 9) (w.alloc o) := by
  obtain ⟨i, hi, hz, hs, hb⟩ := info_parts info_haps
  exact ⟨_, fun w => run_make w 56 THs i _ Try.underlying56 hi hz .i64 .i64 9 9 (by omega) (by omega) (by rw [hb]; omega) (by omega)⟩
theorem make_many : ∃ o, ∀ w : World, (Instr.makeSlice 59 (.int .i64 65) (.int .i64 65)).run Try.prog w = .ok (.slice (some ⟨w.heap.size, 0, none⟩) 65 65) (w.alloc o) := by
  obtain ⟨i, hi, hz, hs, hb⟩ := info_parts info_wat
  exact ⟨_, fun w => run_make w 59 92 i _ Try.underlying59 hi hz .i64 .i64 65 65 (by omega) (by omega) (by rw [hb]; omega) (by omega)⟩

/-- a hub under way: what dialogue 0 holds -/
structure On (w w' : World) (h B : Nat) (S : Nat → StR) (l : List Hap) (cl : Bool) : Prop where
  hub : Hu w' h B 8 S
  l : (S 0).l = l
  cl : (S 0).cl = cl
  on : Below w.heap.size w w'
  hB : w.heap.size ≤ B
  le : B ≤ w'.heap.size
theorem On.more {w w' w2 : World} {h B : Nat} {S : Nat → StR} {l : List Hap} {cl : Bool} (H : On w w' h B S l cl) (hb : Below w'.heap.size w' w2) : On w w2 h B S l cl :=
  ⟨H.hub.on hb, H.l, H.cl, H.on.trans (hb.mono H.on.size), H.hB, Nat.le_trans H.le hb.size⟩
theorem add_on {w w' : World} {h B : Nat} {S : Nat → StR} {l : List Hap} {cl : Bool} (A : Option Addr) (m : List Hap) (cap n : Nat) (hn : n = m.length) (H : On w w' h B S l cl) (hA : Src w' (S 0).b A m) (hm : m.length ≤ 1000000000000) :
    Calls Try.prog 11 #[.pointer (some ⟨h, 0, none⟩), .int .i64 0, .slice A n cap] w' fun e w2 => e = .returned (.int .i64 (addE l cl m)) ∧ ∃ S', On w w2 h B S' (addL l cl m) cl := by
  subst hn
  refine (hadd2 0 A m cap w' H.hub (by decide) H.le hA hm).mono ?_
  rintro e w2 ⟨S', rfl, h2, l2, c2, _, _, ho⟩
  rw [H.l, H.cl] at l2
  rw [H.l, H.cl]
  have hb := ho.below H.le (ownS_ge H.hub (by decide))
  exact ⟨rfl, S', h2, l2, c2.trans H.cl, H.on.trans (hb.mono H.hB), H.hB, Nat.le_trans H.le hb.size⟩
theorem close_on {w w' : World} {h B : Nat} {S : Nat → StR} {l : List Hap} {cl : Bool} (H : On w w' h B S l cl) :
    Calls Try.prog 13 #[.pointer (some ⟨h, 0, none⟩), .int .i64 0] w' fun e w2 => e = .returned (.int .i64 (if cl then 9 else 0)) ∧ ∃ S', On w w2 h B S' l true := by
  refine (hclose2 0 w' H.hub (by decide) H.le).mono ?_
  rintro e w2 ⟨S', rfl, h2, l2, c2, _, _, ho⟩
  rw [H.cl]
  have hb := ho.below H.le (ownS_ge H.hub (by decide))
  exact ⟨rfl, S', h2, l2.trans H.l, c2, H.on.trans (hb.mono H.hB), H.hB, Nat.le_trans H.le hb.size⟩
theorem src_none (w : World) (b : Nat) : Src w b none [] := ⟨fun _ => rfl, fun ad e => by cases e⟩
theorem src_one (w : World) (b : Nat) (hb : b < w.heap.size) : Src (w.alloc (.cells #[.int .i64 0, .string ByteArray.empty, .int .i64 0] THp)) b (some ⟨w.heap.size, 0, none⟩) [z0] :=
  ⟨fun e => (by cases e), fun ad e => by
    cases e
    refine ⟨fun e => by have e2 : w.heap.size = b := e; omega, fun j u hu => ?_⟩
    rw [Addr.add_lit, Nat.zero_add, cell_of_row _ _ _ _ _ _ (heap_alloc_new w _)]
    rcases j with _ | _ | _ | j
    · cases hu; rfl
    · cases hu; rfl
    · cases hu; rfl
    · cases hu⟩
end Go.Proofs.Ytlddeagolhdieaa
