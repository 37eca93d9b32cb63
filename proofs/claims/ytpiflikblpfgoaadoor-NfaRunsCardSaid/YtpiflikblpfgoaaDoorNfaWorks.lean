/- The answer that works asks for: plain. -/
import Derived.Test.YtpiflikblpfgoaaDoorNfaWays
import Derived.Test.YtpiflikblpfgoaaDoorNfaMatch

namespace Go.Proofs.YtpiflikblpfgoaaDoor.PM

/-- a+b -/
def tAB : T := joined 3 [over 6 (one 97), one 98]
theorem tree_AB : tree 3 [97, 43, 98] = .ok tAB := by rfl
theorem ab_1 : fitsB tAB [] = false := by rfl
theorem ab_2 : fitsB tAB [97, 97, 98] = true := by rfl
theorem ab_3 : fitsB tAB [98] = false := by rfl
theorem one97 {w : List UInt8} (h : L (one 97) w) : w = [97] := (L_one (c := 97)).1 h
theorem ab_dead (v : List UInt8) : ¬ L tAB (98 :: v) := by
  intro h
  have h1 : L (.mk 3 noSet [over 6 (one 97), one 98]) (98 :: v) := (L_joined3 _ _).1 h
  generalize hw : (98 :: v : List UInt8) = w at h1
  cases h1 with
  | catCons h2 h3 =>
    unfold over at h2
    cases h2 with
    | plus h4 h5 =>
      rw [one97 h4] at hw
      simp at hw
    | other a b c d e f => exact absurd rfl e
  | other a b c d e f => exact absurd rfl b
theorem ab_live : ∃ v, L tAB ([] ++ v) := ⟨[97, 98], (fitsB_iff (T.OK.wf (tree_ok tree_AB).1) _).1 (by rfl)⟩
theorem ab_deadB {A : Nat → Bool} (hA : Closed (netOf tAB).1 (netOf tAB).2 A) : deadB (netOf tAB).1 (netOf tAB).2 A [] = false ∧ deadB (netOf tAB).1 (netOf tAB).2 A [98] = true := by
  have hwf := T.OK.wf (tree_ok tree_AB).1
  refine ⟨(fits_dead hwf hA []).2 ab_live, ?_⟩
  cases h : deadB (netOf tAB).1 (netOf tAB).2 A [98] with
  | true => rfl
  | false => obtain ⟨v, hv⟩ := (fits_dead hwf hA [98]).1 h; exact absurd hv (ab_dead v)
end Go.Proofs.YtpiflikblpfgoaaDoor.PM

namespace Go.Proofs.YtpiflikblpfgoaaDoor
open Go.RowKit PM

theorem OfS.is {w w' : World} {b : Nat} {t : T} {A : Nat → Bool} {kind : Int} {s : List UInt8} (h : OfS w b (netOf t).1 (netOf t).2 A (openB (netOf t).1 (netOf t).2 A) w') (hc : Closed (netOf t).1 (netOf t).2 A) (ht : tree kind s = .ok t) : NetIs w' b t A :=
  ⟨h.net, hc, (tree_ok ht).1, (tree_ok ht).2⟩

/-- Of, where there is a tree -/
theorem of_tree {kind : Int} {s : ByteArray} {t : T} (ht : tree kind s.data.toList = .ok t) (w : World) (hs : s.size ≤ 9223372036854775807) (hT : Tab w) :
    Calls Tryd.prog 12 #[.agg #[.int .i64 kind, .string s]] w fun e w' => ∃ b A, e = .returned (.tuple #[.pointer (some ⟨b, 0, none⟩), .int .i64 0]) ∧ NetIs w' b t A ∧ w.heap.size ≤ b ∧ Below w.heap.size w w' :=
  (of_any kind s w hs hT).mono fun e w' h => by
    rcases h with ⟨t', b, A, ht', he, ho, hc⟩ | ⟨hno, _, _⟩
    · rw [ht] at ht'; cases ht'
      exact ⟨b, A, he, ho.is hc ht, ho.ge, ho.up⟩
    · exact absurd ht (hno t)
/-- Of, where there is none -/
theorem of_none {kind : Int} {s : ByteArray} (hno : ∀ t, tree kind s.data.toList ≠ .ok t) (w : World) (hs : s.size ≤ 9223372036854775807) (hT : Tab w) :
    Calls Tryd.prog 12 #[.agg #[.int .i64 kind, .string s]] w fun e w' => e = .returned (.tuple #[.pointer none, .int .i64 2]) ∧ Below w.heap.size w w' :=
  (of_any kind s w hs hT).mono fun e w' h => by
    rcases h with ⟨t', b, A, ht', _, _, _⟩ | ⟨_, he, hb⟩
    · exact absurd ht' (hno t')
    · exact ⟨he, hb⟩

set_option maxRecDepth 100000 in
set_option maxHeartbeats 4000000 in
theorem works_any (w : World) (hT : Tab w) :
    Calls Tryd.prog 11 #[] w fun e w' => e = .returned (.bool true) ∧ Below w.heap.size w w' := by
  have HT := Lib.hid hT
  clear hT
  have hs : (ByteArray.mk #[97, 43, 98]).size ≤ 9223372036854775807 := by decide
  have HOf := Lib.hid (of_tree (kind := 3) (s := ⟨#[97, 43, 98]⟩) tree_AB w hs HT.out)
  go_enter Tryd.func11, Tryd.ntmps11
  go_wp2_with fail
  refine HOf.out.mono ?_
  rintro e w1 ⟨b, A, rfl, hn1, hge, hb1⟩
  have HN1 := Lib.hid hn1; have HB1 := Lib.hid hb1; have HT1 := Lib.hid (HT.out.on hb1)
  obtain ⟨hd1, hd2⟩ := ab_deadB hn1.closed
  have HD1 := Lib.hid hd1; have HD2 := Lib.hid hd2
  clear hn1 hb1 hd1 hd2
  go_wp2_with fail
  refine (begin_any b w1).mono ?_
  rintro e w2 ⟨rfl, hr2, hb2⟩
  have HR2 : Hid (RunAt w2 w1.heap.size b tAB []) := Lib.hid hr2
  have HN2 := Lib.hid (HN1.out.on hb2); have HT2 := Lib.hid (HT1.out.on hb2); have HB2 := Lib.hid (below_then HB1.out hb2 (Nat.le_refl _))
  clear hr2 hb2
  have hrg : w.heap.size ≤ w1.heap.size := HB1.out.size
  have hrb : w1.heap.size ≠ b := by have := HN1.out.net.lt; omega
  generalize w1.heap.size = r at *
  go_wp2_with fail
  refine (runDone_any r b tAB A [] w2 HR2.out HN2.out).mono ?_
  rintro e w3 ⟨rfl, hb3⟩
  rw [ab_1]
  have HR3 := Lib.hid (HR2.out.on hb3); have HN3 := Lib.hid (HN2.out.on hb3); have HT3 := Lib.hid (HT2.out.on hb3); have HB3 := Lib.hid (below_then HB2.out hb3 (Nat.le_refl _))
  clear hb3
  go_wp2_with fail
  refine (runDead_any r b tAB A [] w3 HR3.out HN3.out).mono ?_
  rintro e w4 ⟨rfl, hb4⟩
  rw [HD1.out]
  have HR4 := Lib.hid (HR3.out.on hb4); have HN4 := Lib.hid (HN3.out.on hb4); have HT4 := Lib.hid (HT3.out.on hb4); have HB4 := Lib.hid (below_then HB3.out hb4 (Nat.le_refl _))
  clear hb4
  go_wp2_with fail
  refine (runStep_any r b tAB A [] 98 w4 HR4.out HN4.out HT4.out).mono ?_
  rintro e w5 ⟨rfl, hr5, hg5⟩
  have HR5 : Hid (RunAt w5 r b tAB [98]) := Lib.hid hr5
  have HN5 := Lib.hid (HN4.out.grown hg5 (fun e => hrb (Option.some.inj e))); have HT5 := Lib.hid (HT4.out.grown hg5 (fun e => by have := HT.out.lt; have := Option.some.inj e; omega)); have HB5 := Lib.hid (below_set HB4.out hg5 (Nat.le_refl _) hrg)
  clear hr5 hg5
  go_wp2_with fail
  refine (runDead_any r b tAB A [98] w5 HR5.out HN5.out).mono ?_
  rintro e w6 ⟨rfl, hb6⟩
  rw [HD2.out]
  have HN6 := Lib.hid (HN5.out.on hb6); have HT6 := Lib.hid (HT5.out.on hb6); have HB6 := Lib.hid (below_then HB5.out hb6 (Nat.le_refl _))
  clear hb6
  go_wp2_with fail
  refine (match_any b tAB A ⟨#[97, 97, 98]⟩ w6 HN6.out HT6.out (by decide)).mono ?_
  rintro e w7 ⟨rfl, hb7⟩
  rw [show fitsB tAB (ByteArray.mk #[97, 97, 98]).data.toList = true from ab_2]
  have HN7 := Lib.hid (HN6.out.on hb7); have HT7 := Lib.hid (HT6.out.on hb7); have HB7 := Lib.hid (below_then HB6.out hb7 (Nat.le_refl _))
  clear hb7
  go_wp2_with fail
  refine (match_any b tAB A ⟨#[98]⟩ w7 HN7.out HT7.out (by decide)).mono ?_
  rintro e w8 ⟨rfl, hb8⟩
  rw [show fitsB tAB (ByteArray.mk #[98]).data.toList = false from ab_3]
  have HB8 := Lib.hid (below_then HB7.out hb8 (Nat.le_refl _))
  clear hb8
  go_wp2_with fail
  go_ret
  exact ⟨rfl, HB8.out⟩

/-- re: the net of a regular text, or none -/
theorem re_any (s : ByteArray) (w : World) (hs : s.size ≤ 9223372036854775807) (hT : Tab w) :
    Calls Tryd.prog 22 #[.string s] w fun e w' =>
      (∃ t b A, tree 3 s.data.toList = .ok t ∧ e = .returned (.pointer (some ⟨b, 0, none⟩)) ∧ NetIs w' b t A ∧ w.heap.size ≤ b ∧ Below w.heap.size w w') ∨
      ((∀ t, tree 3 s.data.toList ≠ .ok t) ∧ e = .returned (.pointer none) ∧ Below w.heap.size w w') := by
  have HOf := Lib.hid (of_any 3 s w hs hT)
  clear hT
  go_enter Tryd.func22, Tryd.ntmps22
  go_wp2_with fail
  refine HOf.out.mono ?_
  rintro e w1 (⟨t, b, A, ht, rfl, ho, hc⟩ | ⟨hno, rfl, hb⟩)
  · have HX := Lib.hid (⟨ht, ho, hc⟩ : _ ∧ _ ∧ _)
    clear ht ho hc HOf
    go_wp2_with fail
    go_ret
    exact .inl ⟨t, b, A, HX.out.1, rfl, HX.out.2.1.is HX.out.2.2 HX.out.1, HX.out.2.1.ge, HX.out.2.1.up⟩
  · have HX := Lib.hid (⟨hno, hb⟩ : _ ∧ _)
    clear hno hb HOf
    go_wp2_with fail
    go_ret
    exact .inr ⟨HX.out.1, rfl, HX.out.2⟩
end Go.Proofs.YtpiflikblpfgoaaDoor
