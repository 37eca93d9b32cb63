/- Step: a byte more. -/
import Derived.Test.YtfhggnbnbopkkaaDoorNfaRun
namespace Go.Proofs.YtfhggnbnbopkkaaDoor
open Go.RowKit PM

/-- the places behind those that were gone over -/
def accS (n : NS) (p : Part) (f : Bool) (a rm : Nat → Bool) (q : Nat) : Bool := (f && p.first q) || (List.range 64).any fun x => (a x && !rm x) && n.fol x q
theorem accS_start (n : NS) (p : Part) (f : Bool) (a : Nat → Bool) : accS n p f a a = fun q => f && p.first q := by
  funext q; simp [accS]
theorem accS_step {n : NS} {p : Part} {f : Bool} {a rm : Nat → Bool} {j : Nat} (hj : j < 64) (hr : rm j = true) (ha : a j = true) (q : Nat) : (accS n p f a rm q || n.fol j q) = accS n p f a (fun x => rm x && x != j) q := by
  rw [Bool.eq_iff_iff]
  simp only [accS, Bool.or_eq_true, List.any_eq_true, List.mem_range, Bool.and_eq_true, Bool.not_eq_true']
  constructor
  · rintro ((h | ⟨x, h1, h2, h3⟩) | h)
    · exact .inl h
    · exact .inr ⟨x, h1, ⟨h2.1, by simp [h2.2]⟩, h3⟩
    · exact .inr ⟨j, hj, ⟨ha, by simp⟩, h⟩
  · rintro (h | ⟨x, h1, h2, h3⟩)
    · exact .inl (.inl h)
    · by_cases e : x = j
      · subst e; exact .inr h3
      · have e2 : (x != j) = true := by simpa using e
        rw [e2, Bool.and_true] at h2
        exact .inl (.inr ⟨x, h1, h2, h3⟩)
theorem accS_end {n : NS} (hn : n.Ok) (hk : n.k ≤ 64) (p : Part) (f : Bool) (a rm : Nat → Bool) (hr : ∀ x, x < 64 → rm x = false) (c : UInt8) : (B64 fun q => accS n p f a rm q && n.has c.toNat q) = B64 (stepP n p f a c) := by
  refine B64_congr fun q _ => ?_
  rw [Bool.eq_iff_iff]
  simp only [accS, stepP, Bool.or_eq_true, List.any_eq_true, List.mem_range, Bool.and_eq_true, Bool.not_eq_true']
  constructor
  · rintro ⟨h | ⟨x, _, h2, h3⟩, hc⟩
    · exact ⟨.inl h, hc⟩
    · exact ⟨.inr ⟨x, (hn.fol _ _ h3).1, h2.1, h3⟩, hc⟩
  · rintro ⟨h | ⟨x, h1, h2, h3⟩, hc⟩
    · exact ⟨.inl h, hc⟩
    · exact ⟨.inr ⟨x, by omega, ⟨h2, hr x (by omega)⟩, h3⟩, hc⟩

theorem RB.set2 {w : World} {r b : Nat} {a : Nat → Bool} {f : Bool} (h : RB w r b a f) (c : Nat → Bool) (g : Bool) : RB ((w.setCell ⟨r, 1, none⟩ (.int .u64 (B64 c : Nat))).setCell ⟨r, 2, none⟩ (.bool g)) r b c g :=
  heap_setCell_same _ r 2 _ _ _ (heap_setCell_same _ r 1 _ _ _ h)

set_option maxRecDepth 100000 in
set_option maxHeartbeats 4000000 in
theorem step_any (r b : Nat) (n : NS) (p : Part) (A : Nat → Bool) (o : Bool) (a : Nat → Bool) (f : Bool) (c : UInt8) (w : World) (hr : RB w r b a f) (hn : NB w b n p A o) (hok : n.Ok) (hk : n.k ≤ 64) (hT : Tab w) :
    Calls Tryd.prog 36 #[.pointer (some ⟨r, 0, none⟩), .int .u8 c.toNat] w fun e w' => e = .returned (.tuple #[]) ∧ RB w' r b (stepP n p f a c) false ∧ w.grownBy w' (some r) := by
  have hc1 : (c.toNat : Int) < 256 := by have := c.toNat_lt; omega
  have hc0 : (0 : Int) ≤ c.toNat := by omega
  have HR0 : Hid (Below w.heap.size w w) := Lib.hid (Below.refl _ _)
  have HR := Lib.hid hr; have HN := Lib.hid hn; have HT := Lib.hid hT; have HOK := Lib.hid hok; have HK := Lib.hid hk
  have c0 := hr.c0; have c1 := hr.c1; have c2 := hr.c2
  have d0 := hn.c_first
  clear hr hn hT hok hk
  have hz0 : (0 : Int) = ((B64 (accS n p false a a) : Nat) : Int) := by
    rw [accS_start, show (fun q => false && p.first q) = fun _ => false by funext q; rfl, B64_none]; rfl
  have hz1 : (B64 p.first : Int) = ((B64 (accS n p true a a) : Nat) : Int) := by
    rw [accS_start, show (fun q => true && p.first q) = p.first by funext q; rfl]
  have HZ0 := Lib.hid hz0; have HZ1 := Lib.hid hz1
  clear hz0 hz1
  cases f
  · go_enter Tryd.func36, Tryd.ntmps36
    go_wp2_with fail
    go_loopg [5, 4] (B64 a + 1) (fun k v5 v4 wr => ∃ rm : Nat → Bool, v5 = .int .u64 (B64 rm : Nat) ∧ v4 = .int .u64 (B64 (accS n p false a rm) : Nat) ∧ B64 rm + 1 ≤ k ∧ (∀ q, rm q = true → a q = true) ∧ Hid (Below w.heap.size w wr))
    case atStart => exact ⟨a, rfl, (by rw [← HZ0.out]), Nat.le_refl _, fun _ h => h, HR0⟩
    case round =>
      clear c0 c1 c2 d0 HZ0 HZ1
      obtain ⟨rm, rfl, rfl, hm, hra, HS⟩ := hrel
      have HRw := Lib.hid (HR.out.on HS.out); have HNw := Lib.hid (HN.out.on HS.out); have HTw := Lib.hid (HT.out.on HS.out)
      have c0 := HRw.out.c0
      by_cases h0 : B64 rm = 0
      · have c1 := HRw.out.c1; have c2 := HRw.out.c2
        have f1 := HRw.out.frozen 1; have f2 := HRw.out.frozen 2
        have dh := HNw.out.c_has (i := c.toNat) (by have := c.toNat_lt; omega)
        have b1 := B64_lt (accS n p false a rm)
        have b2 := B64_lt fun q => n.has c.toNat q
        have hand : bits .and .u64 (B64 (accS n p false a rm) : Int) ((B64 fun q => n.has c.toNat q : Nat) : Int) = (B64 (stepP n p false a c) : Int) := by
          rw [bits_and_u64_nat _ _ b1 b2, B64_and, accS_end HOK.out HK.out p false a rm (fun x hx => (B64_zero_iff rm).1 h0 x hx) c]
        rw [h0]
        clear hra hm
        generalize B64 (accS n p false a rm) = y1 at *
        generalize (B64 fun q => n.has c.toNat q) = y2 at *
        go_wp2_with fail
        refine bodyPost_end (results_none rfl _ _ _) rfl ⟨rfl, HRw.out.set2 _ _, grown_trans (grown_below HS.out _) (grown_trans (setB _ _ _ _) (setB _ _ _ _))⟩
      · obtain ⟨h1, h2, h3, h4⟩ := B64_low h0
        have HC := Lib.hid (fun W (hW : Tab W) => tz_any (B64 rm) (B64_lt rm) h0 W hW)
        have haj := hra _ h2
        have dc := HNw.out.c_fol h1
        have hlt := B64_lt rm
        have b1 := B64_lt (accS n p false a rm)
        have b2 := B64_lt fun q => n.fol (Lib.ctz 64 (B64 rm)) q
        have hand : bits .and .u64 (B64 rm : Int) ((B64 rm : Int) - 1) = ((B64 fun q => rm q && q != Lib.ctz 64 (B64 rm) : Nat) : Int) := by
          rw [show ((B64 rm : Int) - 1) = ((B64 rm - 1 : Nat) : Int) by omega, bits_and_u64_nat _ _ hlt (by omega), h3]
        have horv : bits .or .u64 (B64 (accS n p false a rm) : Int) ((B64 fun q => n.fol (Lib.ctz 64 (B64 rm)) q : Nat) : Int) = ((B64 (accS n p false a (fun q => rm q && q != Lib.ctz 64 (B64 rm))) : Nat) : Int) := by
          rw [bits_or_u64_nat _ _ b1 b2, B64_or, B64_congr fun q _ => accS_step h1 h2 haj q]
        have HRA := Lib.hid hra
        have hn0 : ((B64 rm : Int) == 0) = false := by simp; omega
        have hn1 : ((B64 rm : Int) != 0) = true := by simp; omega
        generalize hz : Lib.ctz 64 (B64 rm) = j at *
        have HNEXT : Hid (accS n p false a (fun q => rm q && q != j) = accS n p false a (fun q => rm q && q != j)) := Lib.hid rfl
        generalize (B64 fun q => n.fol j q) = y2 at *
        clear hra haj h2 b1 b2
        go_wp2_with fail
        go_region_with (first
          | (go_at_call 58; refine (HC.out _ (by exact HTw.out)).mono ?_; rintro e w2 ⟨rfl, rfl⟩))
        all_goals
          go_wp2_with fail
          go_roundg (gk - 1)
          case measure => omega
          case rel => exact ⟨_, rfl, rfl, by omega, fun q hq => HRA.out q (by simp only [Bool.and_eq_true] at hq; exact hq.1), Lib.hid (below_then HS.out (below_drew _ _ _) (Nat.le_refl _))⟩
  · go_enter Tryd.func36, Tryd.ntmps36
    go_wp2_with fail
    go_loopg [5, 4] (B64 a + 1) (fun k v5 v4 wr => ∃ rm : Nat → Bool, v5 = .int .u64 (B64 rm : Nat) ∧ v4 = .int .u64 (B64 (accS n p true a rm) : Nat) ∧ B64 rm + 1 ≤ k ∧ (∀ q, rm q = true → a q = true) ∧ Hid (Below w.heap.size w wr))
    case atStart => exact ⟨a, rfl, (by rw [← HZ1.out]), Nat.le_refl _, fun _ h => h, HR0⟩
    case round =>
      clear c0 c1 c2 d0 HZ0 HZ1
      obtain ⟨rm, rfl, rfl, hm, hra, HS⟩ := hrel
      have HRw := Lib.hid (HR.out.on HS.out); have HNw := Lib.hid (HN.out.on HS.out); have HTw := Lib.hid (HT.out.on HS.out)
      have c0 := HRw.out.c0
      by_cases h0 : B64 rm = 0
      · have c1 := HRw.out.c1; have c2 := HRw.out.c2
        have f1 := HRw.out.frozen 1; have f2 := HRw.out.frozen 2
        have dh := HNw.out.c_has (i := c.toNat) (by have := c.toNat_lt; omega)
        have b1 := B64_lt (accS n p true a rm)
        have b2 := B64_lt fun q => n.has c.toNat q
        have hand : bits .and .u64 (B64 (accS n p true a rm) : Int) ((B64 fun q => n.has c.toNat q : Nat) : Int) = (B64 (stepP n p true a c) : Int) := by
          rw [bits_and_u64_nat _ _ b1 b2, B64_and, accS_end HOK.out HK.out p true a rm (fun x hx => (B64_zero_iff rm).1 h0 x hx) c]
        rw [h0]
        clear hra hm
        generalize B64 (accS n p true a rm) = y1 at *
        generalize (B64 fun q => n.has c.toNat q) = y2 at *
        go_wp2_with fail
        refine bodyPost_end (results_none rfl _ _ _) rfl ⟨rfl, HRw.out.set2 _ _, grown_trans (grown_below HS.out _) (grown_trans (setB _ _ _ _) (setB _ _ _ _))⟩
      · obtain ⟨h1, h2, h3, h4⟩ := B64_low h0
        have HC := Lib.hid (fun W (hW : Tab W) => tz_any (B64 rm) (B64_lt rm) h0 W hW)
        have haj := hra _ h2
        have dc := HNw.out.c_fol h1
        have hlt := B64_lt rm
        have b1 := B64_lt (accS n p true a rm)
        have b2 := B64_lt fun q => n.fol (Lib.ctz 64 (B64 rm)) q
        have hand : bits .and .u64 (B64 rm : Int) ((B64 rm : Int) - 1) = ((B64 fun q => rm q && q != Lib.ctz 64 (B64 rm) : Nat) : Int) := by
          rw [show ((B64 rm : Int) - 1) = ((B64 rm - 1 : Nat) : Int) by omega, bits_and_u64_nat _ _ hlt (by omega), h3]
        have horv : bits .or .u64 (B64 (accS n p true a rm) : Int) ((B64 fun q => n.fol (Lib.ctz 64 (B64 rm)) q : Nat) : Int) = ((B64 (accS n p true a (fun q => rm q && q != Lib.ctz 64 (B64 rm))) : Nat) : Int) := by
          rw [bits_or_u64_nat _ _ b1 b2, B64_or, B64_congr fun q _ => accS_step h1 h2 haj q]
        have HRA := Lib.hid hra
        have hn0 : ((B64 rm : Int) == 0) = false := by simp; omega
        have hn1 : ((B64 rm : Int) != 0) = true := by simp; omega
        generalize hz : Lib.ctz 64 (B64 rm) = j at *
        have HNEXT : Hid (accS n p true a (fun q => rm q && q != j) = accS n p true a (fun q => rm q && q != j)) := Lib.hid rfl
        generalize (B64 fun q => n.fol j q) = y2 at *
        clear hra haj h2 b1 b2
        go_wp2_with fail
        go_region_with (first
          | (go_at_call 58; refine (HC.out _ (by exact HTw.out)).mono ?_; rintro e w2 ⟨rfl, rfl⟩))
        all_goals
          go_wp2_with fail
          go_roundg (gk - 1)
          case measure => omega
          case rel => exact ⟨_, rfl, rfl, by omega, fun q hq => HRA.out q (by simp only [Bool.and_eq_true] at hq; exact hq.1), Lib.hid (below_then HS.out (below_drew _ _ _) (Nat.le_refl _))⟩
end Go.Proofs.YtfhggnbnbopkkaaDoor
