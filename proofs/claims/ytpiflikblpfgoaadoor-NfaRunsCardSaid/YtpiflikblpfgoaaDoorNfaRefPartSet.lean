/- The document's part at a set. (printed by gen_part_set.py) -/
import Derived.Test.YtpiflikblpfgoaaDoorNfaRefSome
import Derived.Test.YtpiflikblpfgoaaDoorQuietAfter
namespace Go.Proofs.YtpiflikblpfgoaaDoor
open Go.RowKit PM

def PartIs (s : ByteArray) (t : T) (f : Nat → Bool) (w : World) (e : Ending) (w' : World) : Prop := ∃ r : Bool, e = .returned (.bool r) ∧ (r = true ↔ PartP t s.data.toList f) ∧ Below w.heap.size w w'
def PartOk (s : ByteArray) (t : T) : Prop := ∀ (p : Nat → Prop) (K : Value) (w : World) (b c : Nat) (f : Nat → Bool), IsT w p K t → BF w b (s.size + 1) f →
  Calls Tryd.prog 32 #[nodeV t K, .string s, .slice (some ⟨b, 0, none⟩) (s.size + 1) c] w (PartIs s t f w)

/-- a contract whose answer is decided -/
theorem SomeIs.of {t : T} {w : World} {f : FuncId} {args : Array Value} {r : Bool} (h : Calls Tryd.prog f args w (SomeIs t w)) (hr : r = true ↔ SomeP t) : Calls Tryd.prog f args w fun e w' => e = .returned (.bool r) ∧ Below w.heap.size w w' :=
  h.mono fun e w' ⟨r', he, h1, hb⟩ => ⟨by rw [he, show r' = r by rw [Bool.eq_iff_iff, h1, hr]], hb⟩
theorem PartIs.of {s : ByteArray} {t : T} {g : Nat → Bool} {w : World} {f : FuncId} {args : Array Value} {r : Bool} (h : Calls Tryd.prog f args w (PartIs s t g w)) (hr : r = true ↔ PartP t s.data.toList g) : Calls Tryd.prog f args w fun e w' => e = .returned (.bool r) ∧ Below w.heap.size w w' :=
  h.mono fun e w' ⟨r', he, h1, hb⟩ => ⟨by rw [he, show r' = r by rw [Bool.eq_iff_iff, h1, hr]], hb⟩

set_option maxRecDepth 100000 in
set_option maxHeartbeats 16000000 in
theorem partSet_any (s : ByteArray) (hs : s.size ≤ 1000000) (m : Nat) (hm : m ≤ 1000000) (set : Nat → Bool) (kids : List T) (hok : T.OK m (.mk 2 set kids)) : PartOk s (.mk 2 set kids) := by
    intro p K w b c f ha hf
    have hone : T.OK m (.mk 2 set kids) := hok
    obtain ⟨h567, hkl, hks⟩ : ((2 : Nat) = 5 ∨ (2 : Nat) = 6 ∨ (2 : Nat) = 7 → ∃ k, kids = [k]) ∧ kids.length ≤ m ∧ ∀ k ∈ kids, T.OK m k := by cases hok with | mk a b c => exact ⟨a, b, c⟩
    have hSo : ∀ W, Below w.heap.size w W → Calls Tryd.prog 48 #[nodeV (.mk 2 set kids) K] W (SomeIs (.mk 2 set kids) W) := fun W hW => some_any m hm _ hone _ _ W (ha.on hW)
    obtain ⟨A, ca, ka, rfl, hA⟩ := ha.parts
    simp only [T.kids] at hA
    clear hA ha hks hok hone
    simp only [nodeV, nodeC, T.op, T.set, T.kids] at hSo ⊢
    have hHa : ∀ c : UInt8, ∀ W, Calls Tryd.prog 45 #[setV set, .int .u8 c.toNat] W fun e w' => e = .returned (.bool (set c.toNat)) ∧ Below W.heap.size W w' := fun c W => has_any set c W
    unfold setV at hHa
    have hzs : word noSet 0 = 0 ∧ word noSet 1 = 0 ∧ word noSet 2 = 0 ∧ word noSet 3 = 0 := (words_zero noSet).2 (fun ⟨_, _, h⟩ => by cases h)
    generalize hx0 : word set 0 = x0 at *
    generalize hx1 : word set 1 = x1 at *
    generalize hx2 : word set 2 = x2 at *
    generalize hx3 : word set 3 = x3 at *
    clear hx0 hx1 hx2 hx3
    have HSO := Lib.hid hSo; have HHA := Lib.hid hHa; have HZS := Lib.hid hzs
    clear hSo hHa hzs
    obtain ⟨q, hq⟩ : ∃ q, kids.length = q := ⟨_, rfl⟩
    rw [hq] at hkl HSO ⊢
    have HQ := Lib.hid hq
    clear hq
    obtain ⟨n, hn⟩ : ∃ n, n = s.size + 1 := ⟨_, rfl⟩
    have HN := Lib.hid hn
    have hn1 : n ≤ 1000001 := by omega
    have hsn : (s.size : Int) < n := by omega
    have hsz : s.data.toList.length = s.size := rfl
    have HSZ := Lib.hid hsz
    unfold PartIs
    rw [← hn] at hf ⊢
    clear hn hsz
    have HS := Lib.hid (EmS.start w #[.int .i64 (2 : Nat), .int .u64 x0, .int .u64 x1, .int .u64 x2, .int .u64 x3, .slice A q ca])
    have HFW := Lib.hid hf
    clear hf
    all_goals
      clear h567 HZS
      have HPS := Lib.hid (part_set (set := set) (ks := kids) (l := s.data.toList) (f := f))
      rw [HSZ.out] at HPS
      go_enter Tryd.func32, Tryd.ntmps32
      go_upto_region 4 with (fail)
      change Code.wp _ _ _ _ _
      generalize w.alloc (.cells #[.int .i64 (2 : Nat), .int .u64 x0, .int .u64 x1, .int .u64 x2, .int .u64 x3, .slice A q ca] TN) = W0 at *
      obtain ⟨a0, a1, a2, a3, a4, a5⟩ := HS.out.six
      go_wp2_with fail
      have c1 := (HFW.out.on HS.out.up).cell (i := s.size) (by have := HN.out; omega)
      have c1' := After.cell c1
      have a0' := After.cell a0; have a1' := After.cell a1; have a2' := After.cell a2; have a3' := After.cell a3; have a4' := After.cell a4; have a5' := After.cell a5
      have hcut : ∀ (r : Bool), (r = true ↔ SomeP (.mk 2 set kids)) → Hid (∀ p : After W0, Calls Tryd.prog 48 #[.agg #[.int .i64 (2 : Nat), .int .u64 x0, .int .u64 x1, .int .u64 x2, .int .u64 x3, .slice A q ca]] p.W fun e w'' => e = .returned (.bool r) ∧ ∃ q : After W0, w'' = q.W) := fun r hr =>
        Lib.hid (Calls.after fun W hW => SomeIs.of (HSO.out W (below_then HS.out.up hW (Nat.le_refl _))) hr)
      have HCUT := Lib.hid hcut
      clear hcut HSO
      cases hfs : f s.size with
      | true =>
        rw [hfs] at c1' c1 HPS
        by_cases hS : SomeP (.mk 2 set kids)
        · have HSo := HCUT.out true ⟨fun _ => hS, fun _ => rfl⟩
          have HFIN := Lib.hid (HPS.out.2 (.inl ⟨rfl, hS⟩))
          clear hfs hS c1 a0 a1 a2 a3 a4 a5 HPS
          go_wp2_with fail
          refine wp_region_after (by kernel_rfl) (by kernel_rfl) ?_
          repeat (go_big_quiet_step (first | (go_at_call 48; exact HSo.out _) | (go_at_call 45; exact HHa.out _)))
          refine wpQuiet_nil ?_
          intro _ hw'
          obtain ⟨pw, rfl⟩ := hw'
          go_wp2_with fail
          go_ret
          exact ⟨_, rfl, ⟨fun _ => HFIN.out, fun _ => rfl⟩, below_then HS.out.up pw.up (Nat.le_refl _)⟩
        · have HSo := HCUT.out false ⟨fun h => (by cases h), fun h => absurd h hS⟩
          have HNS := Lib.hid (show ¬ (true = true ∧ SomeP (.mk 2 set kids)) from fun h => hS h.2)
          clear hfs c1 a0 a1 a2 a3 a4 a5
          rcases Nat.eq_zero_or_pos s.size with hz | hz
          · have hz0 : ¬ 0 < s.size := by rw [hz]; exact Nat.lt_irrefl 0
            have hz1 : decide (0 < s.size) = false := decide_eq_false hz0
            have HFIN := Lib.hid (show ¬ PartP (.mk 2 set kids) s.data.toList f from fun h => (HPS.out.1 h).elim HNS.out (fun h => hz0 h.1))
            clear hz hz0 HPS
            go_wp2_with fail
            refine wp_region_after (by kernel_rfl) (by kernel_rfl) ?_
            repeat (go_big_quiet_step (first | (go_at_call 48; exact HSo.out _) | (go_at_call 45; exact HHa.out _)))
            refine wpQuiet_nil ?_
            intro _ hw'
            obtain ⟨pw, rfl⟩ := hw'
            go_wp2_with fail
            go_ret
            exact ⟨_, rfl, ⟨fun h => (by cases h), fun h => absurd h HFIN.out⟩, below_then HS.out.up pw.up (Nat.le_refl _)⟩
          · obtain ⟨j, hj⟩ : ∃ j, s.size = j + 1 := ⟨s.size - 1, by omega⟩
            have hz1 : decide (0 < s.size) = true := decide_eq_true hz
            have hz2 : IntKind.i64.wrap ((s.size : Int) - 1) = j := by rw [IntWalk.i64_in _ (by omega)]; omega
            have hz3 : ((s.size : Int) - 1) = j := by omega
            have hz4 : (0 : Int) ≤ j := by omega
            have hz5 : (j : Int) < n := by omega
            have hz6 : (j : Int) < s.size := by omega
            have hz7 : j < s.size := by omega
            have c2 := After.cell ((HFW.out.on HS.out.up).cell (i := j) (by have := HN.out; omega))
            rw [show s.size - 1 = j by omega] at HPS
            have HJ := Lib.hid hj
            clear hj
            cases hfj : f j with
            | false =>
              rw [hfj] at c2 HPS
              have HFIN := Lib.hid (show ¬ PartP (.mk 2 set kids) s.data.toList f from fun h => (HPS.out.1 h).elim HNS.out (fun h => by cases h.2.1))
              clear hfj HPS hz
              go_wp2_with fail
              refine wp_region_after (by kernel_rfl) (by kernel_rfl) ?_
              repeat (go_big_quiet_step (first | (go_at_call 48; exact HSo.out _) | (go_at_call 45; exact HHa.out _)))
              refine wpQuiet_nil ?_
              intro _ hw'
              obtain ⟨pw, rfl⟩ := hw'
              go_wp2_with fail
              go_ret
              exact ⟨_, rfl, ⟨fun h => (by cases h), fun h => absurd h HFIN.out⟩, below_then HS.out.up pw.up (Nat.le_refl _)⟩
            | true =>
              rw [hfj] at c2 HPS
              rw [getD_at s j hz7] at HPS
              have HFIN := Lib.hid (show PartP (.mk 2 set kids) s.data.toList f ↔ set s[j].toNat = true from HPS.out.trans ⟨fun h => h.elim (fun h => absurd h HNS.out) (fun h => h.2.2), fun h => .inr ⟨by omega, rfl, h⟩⟩)
              have HHa := Lib.hid (Calls.after (w := W0) (fun W _ => HHA.out s[j] W))
              clear hfj HPS hz
              go_wp2_with fail
              refine wp_region_after (by kernel_rfl) (by kernel_rfl) ?_
              repeat (go_big_quiet_step (first | (go_at_call 48; exact HSo.out _) | (go_at_call 45; exact HHa.out _)))
              refine wpQuiet_nil ?_
              intro _ hw'
              obtain ⟨pw, rfl⟩ := hw'
              go_wp2_with fail
              go_ret
              exact ⟨_, rfl, HFIN.out.symm, below_then HS.out.up pw.up (Nat.le_refl _)⟩
      | false =>
        rw [hfs] at c1' c1 HPS
        have HNS := Lib.hid (show ¬ (false = true ∧ SomeP (.mk 2 set kids)) from fun h => (by cases h.1))
        have HSo := Lib.hid True.intro
        clear hfs c1 a0 a1 a2 a3 a4 a5
        rcases Nat.eq_zero_or_pos s.size with hz | hz
        · have hz0 : ¬ 0 < s.size := by rw [hz]; exact Nat.lt_irrefl 0
          have hz1 : decide (0 < s.size) = false := decide_eq_false hz0
          have HFIN := Lib.hid (show ¬ PartP (.mk 2 set kids) s.data.toList f from fun h => (HPS.out.1 h).elim HNS.out (fun h => hz0 h.1))
          clear hz hz0 HPS
          go_wp2_with fail
          refine wp_region_after (by kernel_rfl) (by kernel_rfl) ?_
          repeat (go_big_quiet_step (first | (go_at_call 48; exact HSo.out _) | (go_at_call 45; exact HHa.out _)))
          refine wpQuiet_nil ?_
          intro _ hw'
          obtain ⟨pw, rfl⟩ := hw'
          go_wp2_with fail
          go_ret
          exact ⟨_, rfl, ⟨fun h => (by cases h), fun h => absurd h HFIN.out⟩, below_then HS.out.up pw.up (Nat.le_refl _)⟩
        · obtain ⟨j, hj⟩ : ∃ j, s.size = j + 1 := ⟨s.size - 1, by omega⟩
          have hz1 : decide (0 < s.size) = true := decide_eq_true hz
          have hz2 : IntKind.i64.wrap ((s.size : Int) - 1) = j := by rw [IntWalk.i64_in _ (by omega)]; omega
          have hz3 : ((s.size : Int) - 1) = j := by omega
          have hz4 : (0 : Int) ≤ j := by omega
          have hz5 : (j : Int) < n := by omega
          have hz6 : (j : Int) < s.size := by omega
          have hz7 : j < s.size := by omega
          have c2 := After.cell ((HFW.out.on HS.out.up).cell (i := j) (by have := HN.out; omega))
          rw [show s.size - 1 = j by omega] at HPS
          have HJ := Lib.hid hj
          clear hj
          cases hfj : f j with
          | false =>
            rw [hfj] at c2 HPS
            have HFIN := Lib.hid (show ¬ PartP (.mk 2 set kids) s.data.toList f from fun h => (HPS.out.1 h).elim HNS.out (fun h => by cases h.2.1))
            clear hfj HPS hz
            go_wp2_with fail
            refine wp_region_after (by kernel_rfl) (by kernel_rfl) ?_
            repeat (go_big_quiet_step (first | (go_at_call 48; exact HSo.out _) | (go_at_call 45; exact HHa.out _)))
            refine wpQuiet_nil ?_
            intro _ hw'
            obtain ⟨pw, rfl⟩ := hw'
            go_wp2_with fail
            go_ret
            exact ⟨_, rfl, ⟨fun h => (by cases h), fun h => absurd h HFIN.out⟩, below_then HS.out.up pw.up (Nat.le_refl _)⟩
          | true =>
            rw [hfj] at c2 HPS
            rw [getD_at s j hz7] at HPS
            have HFIN := Lib.hid (show PartP (.mk 2 set kids) s.data.toList f ↔ set s[j].toNat = true from HPS.out.trans ⟨fun h => h.elim (fun h => absurd h HNS.out) (fun h => h.2.2), fun h => .inr ⟨by omega, rfl, h⟩⟩)
            have HHa := Lib.hid (Calls.after (w := W0) (fun W _ => HHA.out s[j] W))
            clear hfj HPS hz
            go_wp2_with fail
            refine wp_region_after (by kernel_rfl) (by kernel_rfl) ?_
            repeat (go_big_quiet_step (first | (go_at_call 48; exact HSo.out _) | (go_at_call 45; exact HHa.out _)))
            refine wpQuiet_nil ?_
            intro _ hw'
            obtain ⟨pw, rfl⟩ := hw'
            go_wp2_with fail
            go_ret
            exact ⟨_, rfl, HFIN.out.symm, below_then HS.out.up pw.up (Nat.le_refl _)⟩
end Go.Proofs.YtpiflikblpfgoaaDoor
