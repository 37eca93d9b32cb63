/- step's closure: a track takes a byte. -/
import Derived.Test.YtfhggnbnbopkkaaDoorMatDel
import Derived.Test.YtfhggnbnbopkkaaDoorNfaMatch
import Derived.Deep.QuietTactic
import Derived.BigQuiet
namespace Go.Proofs.YtfhggnbnbopkkaaDoor
open Go.RowKit PM

set_option maxRecDepth 100000
abbrev TI : TypeId := 3
/-- the boxes that the closure holds -/
structure Bx where
  M : Nat
  T : Nat
  C : Nat
  A : Nat
  I : Nat
  F : Nat
def Bx.cap (x : Bx) : Array Value := #[.pointer (some ⟨x.M, 0, none⟩), .pointer (some ⟨x.T, 0, none⟩), .pointer (some ⟨x.C, 0, none⟩), .pointer (some ⟨x.A, 0, none⟩), .pointer (some ⟨x.I, 0, none⟩), .pointer (some ⟨x.F, 0, none⟩)]
structure BxIs (w : World) (x : Bx) (M T : Int) (c : UInt8) (a i f : Int) : Prop where
  m : w.heap[x.M]? = some (.cells #[.int .i64 M] TI (0, 0))
  t : w.heap[x.T]? = some (.cells #[.int .i64 T] TI (0, 0))
  c : w.heap[x.C]? = some (.cells #[.int .u8 c.toNat] 5 (0, 0))
  a : w.heap[x.A]? = some (.cells #[.int .i64 a] TI (0, 0))
  i : w.heap[x.I]? = some (.cells #[.int .i64 i] TI (0, 0))
  f : w.heap[x.F]? = some (.cells #[.int .i64 f] TI (0, 0))
  d1 : x.A ≠ x.F
  d2 : x.M ≠ x.A ∧ x.M ≠ x.F
  d3 : x.T ≠ x.A ∧ x.T ≠ x.F
  d4 : x.I ≠ x.A ∧ x.I ≠ x.F
theorem BxIs.keep {w w' : World} {x : Bx} {M T a i f : Int} {c : UInt8} (h : BxIs w x M T c a i f) (hk : ∀ (k : Nat) (cs : Array Value) (ty : TypeId), w.heap[k]? = some (.cells cs ty (0, 0)) → ty = TI ∨ ty = 5 → w'.heap[k]? = some (.cells cs ty (0, 0))) : BxIs w' x M T c a i f :=
  ⟨hk _ _ _ h.m (.inl rfl), hk _ _ _ h.t (.inl rfl), hk _ _ _ h.c (.inr rfl), hk _ _ _ h.a (.inl rfl), hk _ _ _ h.i (.inl rfl), hk _ _ _ h.f (.inl rfl), h.d1, h.d2, h.d3, h.d4⟩
/-- a match is written down -/
theorem BxIs.hit {w : World} {x : Bx} {M T a i f : Int} {c : UInt8} (h : BxIs w x M T c a i f) (p : Int) : BxIs ((w.setCell ⟨x.A, 0, none⟩ (.int .i64 i)).setCell ⟨x.F, 0, none⟩ (.int .i64 p)) x M T c i i p := by
  have hC : x.C ≠ x.A ∧ x.C ≠ x.F := by
    refine ⟨fun e => ?_, fun e => ?_⟩
    · have h1 := h.c; rw [e, h.a] at h1; injection h1 with h1; injection h1 with _ h1 _; exact absurd h1 (by decide)
    · have h1 := h.c; rw [e, h.f] at h1; injection h1 with h1; injection h1 with _ h1 _; exact absurd h1 (by decide)
  have ho : ∀ k, k ≠ x.A → k ≠ x.F → ((w.setCell ⟨x.A, 0, none⟩ (.int .i64 i)).setCell ⟨x.F, 0, none⟩ (.int .i64 p)).heap[k]? = w.heap[k]? := fun k h1 h2 => by
    rw [heap_setCell_other _ ⟨x.F, 0, none⟩ k _ h2, heap_setCell_other _ ⟨x.A, 0, none⟩ k _ h1]
  have hA := heap_setCell_same w x.A 0 _ _ (.int .i64 i) h.a
  have hF : (w.setCell ⟨x.A, 0, none⟩ (.int .i64 i)).heap[x.F]? = some (.cells #[.int .i64 f] TI (0, 0)) := (heap_setCell_other w ⟨x.A, 0, none⟩ x.F _ (Ne.symm h.d1)).trans h.f
  refine ⟨(ho _ h.d2.1 h.d2.2).trans h.m, (ho _ h.d3.1 h.d3.2).trans h.t, (ho _ hC.1 hC.2).trans h.c, ?_, (ho _ h.d4.1 h.d4.2).trans h.i, heap_setCell_same _ x.F 0 _ _ (.int .i64 p) hF, h.d1, h.d2, h.d3, h.d4⟩
  rw [heap_setCell_other _ ⟨x.F, 0, none⟩ x.A _ h.d1]; exact hA
/-- only these blocks, and new ones, are turned -/
structure Turns (L : List Nat) (w w' : World) : Prop where
  os : w'.os = w.os
  tape : w'.tape = w.tape
  output : w'.output = w.output
  size : w.heap.size ≤ w'.heap.size
  block : ∀ k, k < w.heap.size → k ∉ L → w'.heap[k]? = w.heap[k]?
theorem Turns.refl (L : List Nat) (w : World) : Turns L w w := ⟨rfl, rfl, rfl, Nat.le_refl _, fun _ _ _ => rfl⟩
theorem Turns.trans {L : List Nat} {a b c : World} (h : Turns L a b) (k : Turns L b c) : Turns L a c := ⟨k.os.trans h.os, k.tape.trans h.tape, k.output.trans h.output, Nat.le_trans h.size k.size, fun j hj hn => (k.block j (Nat.lt_of_lt_of_le hj h.size) hn).trans (h.block j hj hn)⟩
theorem Turns.of_below {L : List Nat} {w w' : World} (h : Below w.heap.size w w') : Turns L w w' := ⟨h.os, h.tape, h.output, h.size, fun k hk _ => h.block k hk⟩
theorem Turns.of_grown {L : List Nat} {w w' : World} {r : Nat} (h : w.grownBy w' (some r)) (hr : r ∈ L) : Turns L w w' := ⟨h.os, h.tape, h.output, h.size, fun k hk hn => h.block k hk (fun e => hn (by cases e; exact hr))⟩
theorem Turns.of_set {L : List Nat} {w : World} {g i : Nat} {v : Value} (hg : g ∈ L) : Turns L w (w.setCell ⟨g, i, none⟩ v) := ⟨rfl, rfl, rfl, by simp, fun k _ hn => heap_setCell_other w ⟨g, i, none⟩ k v (fun e => hn (by rw [e]; exact hg))⟩
theorem BxIs.run {w : World} {x : Bx} {M T a i f : Int} {c : UInt8} (h : BxIs w x M T c a i f) {r b : Nat} {A : Nat → Bool} {fl : Bool} (hr : RB w r b A fl) {w' : World} (hg : w.grownBy w' (some r)) : BxIs w' x M T c a i f :=
  h.keep (fun k cs ty hk ht => (hg.block k (lt_of_block hk) (fun e => by
    cases e
    unfold RB at hr
    rw [hk] at hr
    injection hr with hr; injection hr with _ hr _
    rcases ht with e | e <;> (rw [e] at hr; exact absurd hr (by decide)))).trans hk)
theorem BxIs.on {w w' : World} {x : Bx} {M T a i f : Int} {c : UInt8} (h : BxIs w x M T c a i f) (hb : Below w.heap.size w w') : BxIs w' x M T c a i f := h.keep (fun k _ _ hk _ => (hb.block k (lt_of_block hk)).trans hk)
def ClosIs (x : Bx) (b : Nat) (t : T) (A : Nat → Bool) (s : List UInt8) (c : UInt8) (k : Tr) (M Ti a i f : Int) (w : World) (e : Ending) (w' : World) : Prop :=
  Turns [k.r, x.A, x.F] w w' ∧
    (((0 < M ∧ M ≤ Ti - k.p) ∧ e = .returned (.bool true) ∧ Below w.heap.size w w' ∧ BxIs w' x M Ti c a i f) ∨
     (¬ (0 < M ∧ M ≤ Ti - k.p) ∧ e = .returned (.bool (deadB (netOf t).1 (netOf t).2 A (s ++ [c]))) ∧ RunAt w' k.r b t (s ++ [c]) ∧ BxIs w' x M Ti c (if a < 0 ∧ fitsB t (s ++ [c]) = true then i else a) i (if a < 0 ∧ fitsB t (s ++ [c]) = true then k.p else f)))
/-- a run is no net -/
theorem run_net {w : World} {r b b2 : Nat} {t t2 : T} {A : Nat → Bool} {s : List UInt8} (hr : RunAt w r b t s) (hn : NetIs w b2 t2 A) : some r ≠ some b2 := fun e => by
  cases e
  obtain ⟨cs, h1, _⟩ := hn.net
  unfold RunAt RB at hr
  rw [h1] at hr
  injection hr with hr; injection hr with _ hr _
  exact absurd hr (by decide)
/-- a match is written down: all that stands then -/
theorem hit_all {w0 w : World} {x : Bx} {M Ti a i f kp : Int} {c : UInt8} {b bx r : Nat} {t : T} {A : Nat → Bool} {s : List UInt8} {cs : Array Value} (h : BxIs w x M Ti c a i f) (hr : RunAt w r b t s) (hn : NetIs w b t A) (hb : w.heap[bx]? = some (.cells cs TTr (0, 0))) (ht : Turns [r, x.A, x.F] w0 w) :
    BxIs ((w.setCell ⟨x.A, 0, none⟩ (.int .i64 i)).setCell ⟨x.F, 0, none⟩ (.int .i64 kp)).drew x M Ti c i i kp ∧ RunAt ((w.setCell ⟨x.A, 0, none⟩ (.int .i64 i)).setCell ⟨x.F, 0, none⟩ (.int .i64 kp)).drew r b t s ∧ NetIs ((w.setCell ⟨x.A, 0, none⟩ (.int .i64 i)).setCell ⟨x.F, 0, none⟩ (.int .i64 kp)).drew b t A ∧
      ((w.setCell ⟨x.A, 0, none⟩ (.int .i64 i)).setCell ⟨x.F, 0, none⟩ (.int .i64 kp)).drew.heap[bx]? = some (.cells cs TTr (0, 0)) ∧ Turns [r, x.A, x.F] w0 ((w.setCell ⟨x.A, 0, none⟩ (.int .i64 i)).setCell ⟨x.F, 0, none⟩ (.int .i64 kp)).drew := by
  have hd : Below ((w.setCell ⟨x.A, 0, none⟩ (.int .i64 i)).setCell ⟨x.F, 0, none⟩ (.int .i64 kp)).heap.size ((w.setCell ⟨x.A, 0, none⟩ (.int .i64 i)).setCell ⟨x.F, 0, none⟩ (.int .i64 kp)) ((w.setCell ⟨x.A, 0, none⟩ (.int .i64 i)).setCell ⟨x.F, 0, none⟩ (.int .i64 kp)).drew := ⟨rfl, rfl, rfl, Nat.le_refl _, fun _ _ => rfl⟩
  have hne : ∀ (g : Nat) (X : Array Value) (ty : TypeId), w.heap[g]? = some (.cells X ty (0, 0)) → ty ≠ TI → ((w.setCell ⟨x.A, 0, none⟩ (.int .i64 i)).setCell ⟨x.F, 0, none⟩ (.int .i64 kp)).drew.heap[g]? = w.heap[g]? := fun g X ty hg hty => by
    have h1 : g ≠ x.A := fun e => by have h1 := h.a; rw [← e, hg] at h1; injection h1 with h1; injection h1 with _ h1 _; exact hty h1
    have h2 : g ≠ x.F := fun e => by have h1 := h.f; rw [← e, hg] at h1; injection h1 with h1; injection h1 with _ h1 _; exact hty h1
    show ((w.setCell ⟨x.A, 0, none⟩ (.int .i64 i)).setCell ⟨x.F, 0, none⟩ (.int .i64 kp)).heap[g]? = w.heap[g]?
    rw [heap_setCell_other _ ⟨x.F, 0, none⟩ g _ h2, heap_setCell_other _ ⟨x.A, 0, none⟩ g _ h1]
  refine ⟨(h.hit kp).on hd, ?_, ?_, (hne bx _ _ hb (by decide)).trans hb, (ht.trans (Turns.of_set (by simp))).trans ((Turns.of_set (by simp)).trans (Turns.of_below hd))⟩
  · unfold RunAt RB at hr ⊢
    exact (hne r _ _ hr (by decide)).trans hr
  · obtain ⟨cs2, h1, h2⟩ := hn.net
    exact ⟨⟨cs2, (hne b _ _ h1 (by decide)).trans h1, h2⟩, hn.closed, hn.tree, hn.few⟩
set_option maxHeartbeats 4000000 in
theorem clos_any (x : Bx) (b : Nat) (t : T) (A : Nat → Bool) (s : List UInt8) (c : UInt8) (k : Tr) (M Ti a i f : Int) (w : World) (hb : BxIs w x M Ti c a i f) (hr : RunAt w k.r b t s) (hn : NetIs w b t A) (hT : Tab w)
    (hp : -1000000000000 ≤ k.p ∧ k.p ≤ 1000000000000) (hTi : -1000000000000 ≤ Ti ∧ Ti ≤ 1000000000000) :
    Calls Tryd.prog 43 (#[trV k] ++ x.cap) w (ClosIs x b t A s c k M Ti a i f w) := by
  have HB := Lib.hid (And.intro hb (And.intro hr (And.intro hn hT)))
  clear hb hr hn hT
  show Calls _ _ #[.agg #[.pointer (some ⟨k.r, 0, none⟩), .int .i64 k.p], .pointer (some ⟨x.M, 0, none⟩), .pointer (some ⟨x.T, 0, none⟩), .pointer (some ⟨x.C, 0, none⟩), .pointer (some ⟨x.A, 0, none⟩), .pointer (some ⟨x.I, 0, none⟩), .pointer (some ⟨x.F, 0, none⟩)] _ _
  go_enter Tryd.func43, Tryd.ntmps43
  go_upto_region 1 with (fail)
  have hbx := heap_alloc_new w (.cells #[.pointer (some ⟨k.r, 0, none⟩), .int .i64 k.p] TTr)
  have hbb := below_new w (.cells #[.pointer (some ⟨k.r, 0, none⟩), .int .i64 k.p] TTr)
  have HC := Lib.hid (And.intro (HB.out.1.on hbb) (And.intro (HB.out.2.1.on hbb) (And.intro (HB.out.2.2.1.on hbb) (And.intro (HB.out.2.2.2.on hbb) (And.intro hbx hbb)))))
  clear HB hbx hbb
  change Code.wp _ _ _ _ (w.alloc (.cells #[.pointer (some ⟨k.r, 0, none⟩), .int .i64 k.p] TTr))
  generalize w.alloc (.cells #[.pointer (some ⟨k.r, 0, none⟩), .int .i64 k.p] TTr) = W at *
  have HSW : Hid (Turns [k.r, x.A, x.F] w W) := Lib.hid (Turns.of_below HC.out.2.2.2.2.2)
  have hbb0 := HC.out.2.2.2.2.2
  have HB0 := Lib.hid hbb0
  clear hbb0
  obtain ⟨bx, hbx⟩ : ∃ bx, w.heap.size = bx := ⟨_, rfl⟩
  have HBX : Hid (W.heap[bx]? = some (.cells #[.pointer (some ⟨k.r, 0, none⟩), .int .i64 k.p] TTr (0, 0))) := Lib.hid (by rw [← hbx]; exact HC.out.2.2.2.2.1)
  rw [hbx]
  clear hbx
  have HK := Lib.hid (And.intro HC.out.1 (And.intro HC.out.2.1 (And.intro HC.out.2.2.1 HC.out.2.2.2.1)))
  clear HC
  have m0 : W.cell? ⟨x.M, 0, none⟩ = some (.int .i64 M) := by rw [cell_of_row _ _ 0 _ _ _ HK.out.1.m]; rfl
  have m1 : W.cell? ⟨x.T, 0, none⟩ = some (.int .i64 Ti) := by rw [cell_of_row _ _ 0 _ _ _ HK.out.1.t]; rfl
  have m2 : W.cell? ⟨x.C, 0, none⟩ = some (.int .u8 c.toNat) := by rw [cell_of_row _ _ 0 _ _ _ HK.out.1.c]; rfl
  have b0 : W.cell? ⟨bx, 0, none⟩ = some (.pointer (some ⟨k.r, 0, none⟩)) := by rw [cell_of_row _ _ 0 _ _ _ HBX.out]; rfl
  have b1 : W.cell? ⟨bx, 1, none⟩ = some (.int .i64 k.p) := by rw [cell_of_row _ _ 1 _ _ _ HBX.out]; rfl
  obtain ⟨kp, hkp⟩ : ∃ q, k.p = q := ⟨_, rfl⟩
  obtain ⟨kr, hkr⟩ : ∃ q, k.r = q := ⟨_, rfl⟩
  rw [hkp] at hp b1
  rw [hkr] at b0
  have HKK := Lib.hid (And.intro hkp hkr)
  clear hkp hkr
  by_cases hcut : 0 < M ∧ M ≤ Ti - kp
  · have hM : 0 < M := hcut.1
    have hM2 : M ≤ Ti - kp := hcut.2
    have HCUT := Lib.hid hcut
    clear hcut
    go_wp2_with fail
    go_ret
    exact ⟨HSW.out, .inl ⟨by rw [HKK.out.1]; exact HCUT.out, rfl, HB0.out, HK.out.1⟩⟩
  · have HCUT := Lib.hid hcut
    have HST := Lib.hid (runStep_any k.r b t A s c W HK.out.2.1 HK.out.2.2.1 HK.out.2.2.2)
    rw [HKK.out.2] at HST
    have hcs : (0 < M ∧ ¬ M ≤ Ti - kp) ∨ ¬ 0 < M := by omega
    clear hcut
    rcases hcs with ⟨hM, hM2⟩ | hM
    all_goals (
      go_wp2_with fail
      refine HST.out.mono ?_
      rintro e w2 ⟨rfl, hr2, hg2⟩
      have hne : ∀ k', k' ≠ k.r → k' < W.heap.size → w2.heap[k']? = W.heap[k']? := fun k' h1 h2 => hg2.block k' h2 (fun e => h1 (by cases e; exact HKK.out.2.symm))
      have hbxr : bx ≠ k.r := fun e => by
        have h1 := HK.out.2.1
        unfold RunAt RB at h1
        rw [← e, HBX.out] at h1
        injection h1 with h1; injection h1 with _ h1 _
        exact absurd h1 (by decide)
      rw [← HKK.out.2] at hg2
      have HX2 := Lib.hid (And.intro (HK.out.1.run HK.out.2.1 hg2) (And.intro (by rw [← HKK.out.2] at hr2; exact hr2 : RunAt w2 k.r b t (s ++ [c])) (And.intro (HK.out.2.2.1.grown hg2 (run_net HK.out.2.1 HK.out.2.2.1)) (And.intro ((hne bx hbxr (lt_of_block HBX.out)).trans HBX.out) (HSW.out.trans (Turns.of_grown hg2 (by simp)))))))
      clear hr2 hg2 hne hbxr m0 m1 m2 b0 b1
      have n3 : w2.cell? ⟨x.A, 0, none⟩ = some (.int .i64 a) := by rw [cell_of_row _ _ 0 _ _ _ HX2.out.1.a]; rfl
      have nb0 : w2.cell? ⟨bx, 0, none⟩ = some (.pointer (some ⟨kr, 0, none⟩)) := by rw [cell_of_row _ _ 0 _ _ _ HX2.out.2.2.2.1, ← HKK.out.2]; rfl
      by_cases ha : a < 0
      · have HDN := Lib.hid (runDone_any k.r b t A (s ++ [c]) w2 HX2.out.2.1 HX2.out.2.2.1)
        rw [HKK.out.2] at HDN
        go_wp2_with fail
        refine HDN.out.mono ?_
        rintro e w3 ⟨rfl, hb3⟩
        have HX3 := Lib.hid (And.intro (HX2.out.1.on hb3) (And.intro (HX2.out.2.1.on hb3) (And.intro (HX2.out.2.2.1.on hb3) (And.intro ((hb3.block _ (lt_of_block HX2.out.2.2.2.1)).trans HX2.out.2.2.2.1) (HX2.out.2.2.2.2.trans (Turns.of_below hb3))))))
        clear hb3 HX2 n3 nb0 HDN
        by_cases hf : fitsB t (s ++ [c]) = true
        · have HF := Lib.hid hf
          rw [hf]
          have g0 : w3.cell? ⟨x.I, 0, none⟩ = some (.int .i64 i) := by rw [cell_of_row _ _ 0 _ _ _ HX3.out.1.i]; rfl
          have g1 : w3.cell? ⟨bx, 1, none⟩ = some (.int .i64 kp) := by rw [cell_of_row _ _ 1 _ _ _ HX3.out.2.2.2.1, ← HKK.out.1]; rfl
          have g2 : w3.cell? ⟨x.A, 0, none⟩ = some (.int .i64 a) := by rw [cell_of_row _ _ 0 _ _ _ HX3.out.1.a]; rfl
          have g3 : w3.cell? ⟨x.F, 0, none⟩ = some (.int .i64 f) := by rw [cell_of_row _ _ 0 _ _ _ HX3.out.1.f]; rfl
          have h2 : w3.frozen? ⟨x.A, 0, none⟩ = false := frozen_of_row _ _ _ _ _ HX3.out.1.a
          have h3 : w3.frozen? ⟨x.F, 0, none⟩ = false := frozen_of_row _ _ _ _ _ HX3.out.1.f
          have hAF : x.A ≠ x.F := HX3.out.1.d1
          have hIA : x.I ≠ x.A := HX3.out.1.d4.1
          have hIF : x.I ≠ x.F := HX3.out.1.d4.2
          clear hf
          go_upto_region 5 with (fail)
          go_region
          have HX4 := Lib.hid (hit_all (kp := kp) HX3.out.1 HX3.out.2.1 HX3.out.2.2.1 HX3.out.2.2.2.1 HX3.out.2.2.2.2)
          clear HX3 g0 g1 g2 g3 h2 h3 hAF hIA hIF
          change Exit.then _ _ _ _ ((w3.setCell ⟨x.A, 0, none⟩ (.int .i64 i)).setCell ⟨x.F, 0, none⟩ (.int .i64 kp)).drew
          generalize ((w3.setCell ⟨x.A, 0, none⟩ (.int .i64 i)).setCell ⟨x.F, 0, none⟩ (.int .i64 kp)).drew = w4 at *
          go_upto_region 6 with (fail)
          have HDD := Lib.hid (runDead_any k.r b t A (s ++ [c]) w4 HX4.out.2.1 HX4.out.2.2.1)
          rw [HKK.out.2] at HDD
          have d0 : w4.cell? ⟨bx, 0, none⟩ = some (.pointer (some ⟨kr, 0, none⟩)) := by rw [cell_of_row _ _ 0 _ _ _ HX4.out.2.2.2.1, ← HKK.out.2]; rfl
          go_wp2_with fail
          refine HDD.out.mono ?_
          rintro e w9 ⟨rfl, hb9⟩
          have HX9 := Lib.hid (And.intro (HX4.out.1.on hb9) (And.intro (HX4.out.2.1.on hb9) (HX4.out.2.2.2.2.trans (Turns.of_below hb9))))
          clear hb9 HDD d0
          go_wp2_with fail
          go_ret
          exact ⟨HX9.out.2.2, .inr ⟨by rw [HKK.out.1]; exact HCUT.out, rfl, HX9.out.2.1, by rw [if_pos ⟨by omega, HF.out⟩, if_pos ⟨by omega, HF.out⟩, HKK.out.1]; exact HX9.out.1⟩⟩
        · have HF := Lib.hid hf
          have hf0 : fitsB t (s ++ [c]) = false := by simpa using hf
          rw [hf0]
          clear hf hf0
          have HDD := Lib.hid (runDead_any k.r b t A (s ++ [c]) w3 HX3.out.2.1 HX3.out.2.2.1)
          rw [HKK.out.2] at HDD
          have d0 : w3.cell? ⟨bx, 0, none⟩ = some (.pointer (some ⟨kr, 0, none⟩)) := by rw [cell_of_row _ _ 0 _ _ _ HX3.out.2.2.2.1, ← HKK.out.2]; rfl
          go_wp2_with fail
          refine HDD.out.mono ?_
          rintro e w9 ⟨rfl, hb9⟩
          have HX9 := Lib.hid (And.intro (HX3.out.1.on hb9) (And.intro (HX3.out.2.1.on hb9) (HX3.out.2.2.2.2.trans (Turns.of_below hb9))))
          clear hb9 HDD d0
          go_wp2_with fail
          go_ret
          exact ⟨HX9.out.2.2, .inr ⟨by rw [HKK.out.1]; exact HCUT.out, rfl, HX9.out.2.1, by rw [if_neg (fun h => HF.out h.2), if_neg (fun h => HF.out h.2)]; exact HX9.out.1⟩⟩
      · have HAA := Lib.hid ha
        have HDD := Lib.hid (runDead_any k.r b t A (s ++ [c]) w2 HX2.out.2.1 HX2.out.2.2.1)
        rw [HKK.out.2] at HDD
        have d0 : w2.cell? ⟨bx, 0, none⟩ = some (.pointer (some ⟨kr, 0, none⟩)) := by rw [cell_of_row _ _ 0 _ _ _ HX2.out.2.2.2.1, ← HKK.out.2]; rfl
        go_wp2_with fail
        refine HDD.out.mono ?_
        rintro e w9 ⟨rfl, hb9⟩
        have HX9 := Lib.hid (And.intro (HX2.out.1.on hb9) (And.intro (HX2.out.2.1.on hb9) (HX2.out.2.2.2.2.trans (Turns.of_below hb9))))
        clear hb9 HDD d0
        go_wp2_with fail
        go_ret
        exact ⟨HX9.out.2.2, .inr ⟨by rw [HKK.out.1]; exact HCUT.out, rfl, HX9.out.2.1, by rw [if_neg (fun h => absurd h.1 (by have := HAA.out; omega)), if_neg (fun h => absurd h.1 (by have := HAA.out; omega))]; exact HX9.out.1⟩⟩)
end Go.Proofs.YtfhggnbnbopkkaaDoor
