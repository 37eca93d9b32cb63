/- Match: does the pattern fit the whole of a text? -/
import Derived.Test.YtfhggnbnbopkkaaDoorNfaStep
import Derived.Test.YtfhggnbnbopkkaaDoorNfaOf
namespace Go.Proofs.YtfhggnbnbopkkaaDoor
open Go.RowKit PM

/-- a tree's net lies at b -/
structure NetIs (w : World) (b : Nat) (t : T) (A : Nat → Bool) : Prop where
  net : NB w b (netOf t).1 (netOf t).2 A (openB (netOf t).1 (netOf t).2 A)
  closed : Closed (netOf t).1 (netOf t).2 A
  tree : T.OK 100 t
  few : leaves t ≤ 64
section
variable {w : World} {b : Nat} {t : T} {A : Nat → Bool}
theorem NetIs.on {w' : World} (h : NetIs w b t A) (hb : Below w.heap.size w w') : NetIs w' b t A := ⟨h.net.on hb, h.closed, h.tree, h.few⟩
theorem NetIs.grown {w' : World} (h : NetIs w b t A) {g : Option Nat} (hg : w.grownBy w' g) (hr : g ≠ some b) : NetIs w' b t A := ⟨h.net.grown hg hr, h.closed, h.tree, h.few⟩
theorem NetIs.ok (h : NetIs w b t A) : (netOf t).1.Ok := (net_ok h.tree.wf).ok
theorem NetIs.k (h : NetIs w b t A) : (netOf t).1.k ≤ 64 := by
  have h1 : (netOf t).1.k ≤ (0 : Nat) + leaves t := add_k t ⟨0, fun _ _ => false, fun _ _ => false⟩
  have := h.few; omega
theorem NetIs.first (h : NetIs w b t A) : ∀ q, (netOf t).2.first q = true → q < (netOf t).1.k := fun q hq => ((net_ok h.tree.wf).rep.first q hq).2
theorem NetIs.last (h : NetIs w b t A) : ∀ q, (netOf t).2.last q = true → q < (netOf t).1.k := fun q hq => ((net_ok h.tree.wf).rep.last q hq).2

theorem meets_any {n : NS} {a c : Nat → Bool} (hk : n.k ≤ 64) (ha : ∀ q, a q = true → q < n.k) : meets a c = (List.range n.k).any fun q => a q && c q := by
  rw [Bool.eq_iff_iff, meets_iff]
  simp only [List.any_eq_true, List.mem_range, Bool.and_eq_true]
  exact ⟨fun ⟨k, _, h1, h2⟩ => ⟨k, ha k h1, h1, h2⟩, fun ⟨k, h0, h1, h2⟩ => ⟨k, by omega, h1, h2⟩⟩
theorem NetIs.done (h : NetIs w b t A) (s : List UInt8) : ((s.isEmpty && (netOf t).2.empty) || meets (PM.ways (netOf t).1 (netOf t).2 s) (netOf t).2.last) = fitsB t s := by
  rw [meets_any h.k fun q hq => (ways_some h.ok hq).2]; rfl
theorem NetIs.dead (h : NetIs w b t A) (s : List UInt8) : (!((s.isEmpty && openB (netOf t).1 (netOf t).2 A) || meets (PM.ways (netOf t).1 (netOf t).2 s) A)) = deadB (netOf t).1 (netOf t).2 A s := by
  rw [meets_any h.k fun q hq => (ways_some h.ok hq).2]; rfl
/-- where it is dead nothing longer is fitted -/
theorem NetIs.dead_fits (h : NetIs w b t A) {s : List UInt8} (hd : deadB (netOf t).1 (netOf t).2 A s = true) (v : List UInt8) : fitsB t (s ++ v) = false := by
  cases hf : fitsB t (s ++ v) with
  | false => rfl
  | true =>
    have := (fits_dead h.tree.wf h.closed s).2 ⟨v, (fitsB_iff h.tree.wf (s ++ v)).1 hf⟩
    rw [hd] at this; cases this
end

/-- a way through a net that stands behind a text -/
def RunAt (w : World) (r b : Nat) (t : T) (s : List UInt8) : Prop := RB w r b (PM.ways (netOf t).1 (netOf t).2 s) s.isEmpty

theorem runStep_any (r b : Nat) (t : T) (A : Nat → Bool) (s : List UInt8) (c : UInt8) (w : World) (hr : RunAt w r b t s) (hn : NetIs w b t A) (hT : Tab w) :
    Calls Tryd.prog 36 #[.pointer (some ⟨r, 0, none⟩), .int .u8 c.toNat] w fun e w' => e = .returned (.tuple #[]) ∧ RunAt w' r b t (s ++ [c]) ∧ w.grownBy w' (some r) :=
  (step_any r b _ _ A _ _ _ c w hr hn.net hn.ok hn.k hT).mono fun e w' ⟨h1, h2, h3⟩ => ⟨h1, by unfold RunAt; rw [ways_snoc, show (s ++ [c]).isEmpty = false by simp]; exact h2, h3⟩
theorem runDone_any (r b : Nat) (t : T) (A : Nat → Bool) (s : List UInt8) (w : World) (hr : RunAt w r b t s) (hn : NetIs w b t A) :
    Calls Tryd.prog 38 #[.pointer (some ⟨r, 0, none⟩)] w fun e w' => e = .returned (.bool (fitsB t s)) ∧ Below w.heap.size w w' := by
  rw [← hn.done s]
  exact done_any r b _ _ A _ _ _ w hr hn.net
theorem runDead_any (r b : Nat) (t : T) (A : Nat → Bool) (s : List UInt8) (w : World) (hr : RunAt w r b t s) (hn : NetIs w b t A) :
    Calls Tryd.prog 37 #[.pointer (some ⟨r, 0, none⟩)] w fun e w' => e = .returned (.bool (deadB (netOf t).1 (netOf t).2 A s)) ∧ Below w.heap.size w w' := by
  rw [← hn.dead s]
  exact dead_any r b _ _ A _ _ _ w hr hn.net

set_option maxRecDepth 100000 in
set_option maxHeartbeats 4000000 in
theorem match_any (b : Nat) (t : T) (A : Nat → Bool) (s : ByteArray) (w : World) (hn : NetIs w b t A) (hT : Tab w) (hs : s.size ≤ 1000000) :
    Calls Tryd.prog 27 #[.pointer (some ⟨b, 0, none⟩), .string s] w fun e w' => e = .returned (.bool (fitsB t s.data.toList)) ∧ Below w.heap.size w w' := by
  have hbl := hn.net.lt
  have HR0 : Hid (RunAt (w.alloc (.cells #[.pointer (some ⟨b, 0, none⟩), .int .u64 0, .bool true] TRn)) w.heap.size b t [] ∧ Below w.heap.size w (w.alloc (.cells #[.pointer (some ⟨b, 0, none⟩), .int .u64 0, .bool true] TRn))) := Lib.hid ⟨by
    unfold RunAt RB
    rw [show PM.ways (netOf t).1 (netOf t).2 [] = none' from rfl, show B64 none' = 0 from B64_none]
    exact heap_alloc_new _ _, below_new _ _⟩
  have HN := Lib.hid hn; have HT := Lib.hid hT
  clear hn hT
  go_enter Tryd.func27, Tryd.ntmps27
  go_wp2_with fail
  change Code.wp _ _ _ _ _
  generalize w.alloc (.cells #[.pointer (some ⟨b, 0, none⟩), .int .u64 0, .bool true] TRn) = W0 at *
  go_loopg [13] (s.size + 1) (fun k v13 wr => ∃ i : Nat, v13 = .int .i64 i ∧ i ≤ s.size ∧ s.size + 1 - i ≤ k ∧ Hid (RunAt wr w.heap.size b t (s.data.toList.take i) ∧ Below w.heap.size w wr))
  case atStart => exact ⟨0, rfl, by omega, by omega, HR0⟩
  case round =>
    clear HR0
    obtain ⟨i, rfl, hi, hik, HS⟩ := hrel
    have HNr := Lib.hid (HN.out.on HS.out.2); have HTr := Lib.hid (HT.out.on HS.out.2)
    by_cases hlt : i < s.size
    · have h1 : (i : Int) < s.size := by omega
      have h2 : (0 : Int) ≤ i := by omega
      have hi2 : (i : Int) ≤ 1000000 := by omega
      go_wp2_with fail
      refine (runStep_any w.heap.size b t A (s.data.toList.take i) s[i] wr HS.out.1 HNr.out HTr.out).mono ?_
      rintro e w2 ⟨rfl, hr2, hg2⟩
      have htk : s.data.toList.take i ++ [s[i]] = s.data.toList.take (i + 1) := by rw [List.take_succ_eq_append_getElem (show i < s.data.toList.length from hlt)]; rfl
      rw [htk] at hr2
      have HS2 : Hid (RunAt w2 w.heap.size b t (s.data.toList.take (i + 1)) ∧ Below w.heap.size w w2) := Lib.hid ⟨hr2, below_set HS.out.2 hg2 (Nat.le_refl _) (Nat.le_refl _)⟩
      have HN2 := Lib.hid (HN.out.on HS2.out.2)
      clear hr2 hg2 htk
      go_wp2_with fail
      refine (runDead_any w.heap.size b t A (s.data.toList.take (i + 1)) w2 HS2.out.1 HN2.out).mono ?_
      rintro e w3 ⟨rfl, hb3⟩
      have HS3 : Hid (RunAt w3 w.heap.size b t (s.data.toList.take (i + 1)) ∧ Below w.heap.size w w3) := Lib.hid ⟨HS2.out.1.on hb3, below_then HS2.out.2 hb3 (Nat.le_refl _)⟩
      clear hb3
      cases hd : deadB (netOf t).1 (netOf t).2 A (s.data.toList.take (i + 1)) with
      | true =>
        have HD := Lib.hid hd
        clear hd
        go_wp2_with fail
        go_ret
        refine ⟨?_, HS3.out.2⟩
        have := HN.out.dead_fits HD.out (s.data.toList.drop (i + 1))
        rw [List.take_append_drop] at this
        rw [this]; rfl
      | false =>
        clear hd
        go_wp2_with fail
        go_roundg (gk - 1)
        case measure => omega
        case rel => exact ⟨i + 1, by go_num, by omega, by omega, HS3⟩
    · obtain rfl : i = s.size := by omega
      go_wp2_with fail
      refine (runDone_any w.heap.size b t A (s.data.toList.take s.size) wr HS.out.1 HNr.out).mono ?_
      rintro e w2 ⟨rfl, hb2⟩
      have HB := Lib.hid (below_then HS.out.2 hb2 (Nat.le_refl _))
      have htk : s.data.toList.take s.size = s.data.toList := List.take_of_length_le (Nat.le_refl _)
      rw [htk]
      clear hb2
      go_wp2_with fail
      go_ret
      exact ⟨rfl, HB.out⟩
end Go.Proofs.YtfhggnbnbopkkaaDoor
