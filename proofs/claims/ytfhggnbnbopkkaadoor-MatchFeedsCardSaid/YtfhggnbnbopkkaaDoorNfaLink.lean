/- link: places that may stand behind others. -/
import Derived.Test.YtfhggnbnbopkkaaDoorNfaMem
import Derived.Deep.LoopGhost
import Derived.Deep.RegionHeld3
namespace Go.Proofs.YtfhggnbnbopkkaaDoor
open Go.RowKit PM

theorem u64_and_nat (x y : Nat) (hx : x < 18446744073709551616) (hy : y < 18446744073709551616) : bits .and .u64 (x : Int) (y : Int) = ((x &&& y : Nat) : Int) := bits_and_u64_nat x y hx hy

/-- one round's links -/
theorem link_step {w : World} {b : Nat} {n : NS} {p : Part} {A : Nat → Bool} {o : Bool} {a f r : Nat → Bool} {j : Nat} (h : NB w b (n.link (fun q => a q && !r q) f) p A o) (hj : j < 64) (hr : r j = true) (ha : a j = true) :
    NB (w.setCell ⟨b, 256 + j, none⟩ (.int .u64 (B64 fun q => (n.link (fun q => a q && !r q) f).fol j q || f q))) b (n.link (fun q => a q && !(r q && q != j)) f) p A o := by
  refine (h.set_fol hj _).congr rfl (fun _ _ _ _ => rfl) (fun x y hx hy => ?_)
  simp only [NS.link]
  by_cases e : x = j
  · subst e
    rw [if_pos rfl]
    simp [ha, hr]
  · have e2 : (x != j) = true := by simpa using e
    rw [if_neg e]
    simp [e2]

set_option maxRecDepth 100000 in
set_option maxHeartbeats 4000000 in
theorem link_any (b : Nat) (n : NS) (p : Part) (A : Nat → Bool) (o : Bool) (a f : Nat → Bool) (w : World) (h : NB w b n p A o) (hb : b ≠ 0) (hT : Tab w) :
    Calls Tryd.prog 57 #[.pointer (some ⟨b, 0, none⟩), .int .u64 (B64 a), .int .u64 (B64 f)] w fun e w' => e = .returned (.tuple #[]) ∧ NB w' b (n.link a f) p A o ∧ w.grownBy w' (some b) := by
  have H0 : Hid (NB w b (n.link (fun q => a q && !a q) f) p A o ∧ w.grownBy w (some b)) := Lib.hid ⟨h.congr rfl (fun _ _ _ _ => rfl) (fun x y _ _ => by simp [NS.link]), grown_below (Below.refl _ _) _⟩
  have HT := Lib.hid hT
  have HBn := Lib.hid hb
  have hfl := B64_lt f
  clear h hT hb
  go_enter Tryd.func57, Tryd.ntmps57
  go_wp2_with fail
  go_loopg [1] (B64 a + 1) (fun k v1 wr => ∃ r : Nat → Bool, v1 = .int .u64 (B64 r) ∧ B64 r + 1 ≤ k ∧ (∀ q, r q = true → a q = true) ∧ Hid (NB wr b (n.link (fun q => a q && !r q) f) p A o ∧ w.grownBy wr (some b)))
  case atStart => exact ⟨a, rfl, Nat.le_refl _, fun _ h => h, H0⟩
  case round =>
    obtain ⟨r, rfl, hm, hra, HS⟩ := hrel
    have hTr : Tab wr := HT.out.grown HS.out.2 (fun e => HBn.out (Option.some.inj e))
    by_cases h0 : B64 r = 0
    · rw [h0]
      go_wp2_with fail
      refine bodyPost_end (results_none rfl _ _ _) rfl ⟨rfl, HS.out.1.congr rfl (fun _ _ _ _ => rfl) (fun x y hx hy => ?_), HS.out.2⟩
      simp [NS.link, (B64_zero_iff r).1 h0 x hx]
    · obtain ⟨h1, h2, h3, h4⟩ := B64_low h0
      have HC := Lib.hid (fun W (hW : Tab W) => tz_any (B64 r) (B64_lt r) h0 W hW)
      have HL := fun q => hra q
      have haj := hra _ h2
      have hstep : NB wr b (n.link (fun q => a q && !r q) f) p A o → _ := fun h => link_step h h1 h2 haj
      have HStep := Lib.hid hstep
      have hc := HS.out.1.c_fol h1
      have hfz := HS.out.1.frozen (256 + Lib.ctz 64 (B64 r))
      have hlt := B64_lt r
      have hle := B64_lt fun q => (n.link (fun q => a q && !r q) f).fol (Lib.ctz 64 (B64 r)) q
      have hor := B64_or (fun q => (n.link (fun q => a q && !r q) f).fol (Lib.ctz 64 (B64 r)) q) f
      generalize hy : B64 (fun q => (n.link (fun q => a q && !r q) f).fol (Lib.ctz 64 (B64 r)) q) = y at *
      generalize hz : Lib.ctz 64 (B64 r) = j at *
      have hn0 : ((B64 r : Int) == 0) = false := by simp; omega
      have hn1 : ((B64 r : Int) != 0) = true := by simp; omega
      have hand : bits .and .u64 (B64 r : Int) ((B64 r : Int) - 1) = ((B64 fun q => r q && q != j : Nat) : Int) := by
        rw [show ((B64 r : Int) - 1) = ((B64 r - 1 : Nat) : Int) by omega, bits_and_u64_nat _ _ hlt (by omega), h3]
      have horv : bits .or .u64 (y : Int) (B64 f : Int) = ((B64 fun q => (n.link (fun q => a q && !r q) f).fol j q || f q : Nat) : Int) := by
        rw [bits_or_u64_nat _ _ hle hfl, hor]
      have HR := Lib.hid hra
      have HTr := Lib.hid hTr
      clear hra HL hstep hTr haj h2
      go_wp2_with fail
      go_region_with (first
        | (go_at_call 58; refine (HC.out _ (by first | exact HTr.out | exact HTr.out)).mono ?_; rintro e w2 ⟨rfl, rfl⟩))
      all_goals go_wp2_with fail
      go_roundg (gk - 1)
      case measure => omega
      case rel =>
        refine ⟨fun q => r q && q != j, rfl, by omega, fun q hq => HR.out q ?_, Lib.hid ⟨HStep.out HS.out.1, grown_trans HS.out.2 ?_⟩⟩
        · simp only [Bool.and_eq_true] at hq; exact hq.1
        · exact grown_trans (grown_below (below_drew _ _ _) _) (setB _ _ _ _)
end Go.Proofs.YtfhggnbnbopkkaaDoor
