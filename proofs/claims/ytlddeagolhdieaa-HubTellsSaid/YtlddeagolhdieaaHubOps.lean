/- What is done with a hub: stream, Add, Close, Len, Watch, Next, At. -/
import Derived.Test.YtlddeagolhdieaaHubHub
namespace Go.Proofs.Ytlddeagolhdieaa
open Go.RowKit Go.MuLone Go.Conc

def upd (S : Nat → StR) (i : Nat) (r : StR) : Nat → StR := fun j => if j = i then r else S j
theorem upd_same (S : Nat → StR) (i : Nat) (r : StR) : upd S i r i = r := if_pos rfl
theorem upd_other (S : Nat → StR) {i j : Nat} (r : StR) (h : j ≠ i) : upd S i r j = S j := if_neg h
/-- the blocks of a stream -/
def ownS (r : StR) : List Nat := [r.b, r.c] ++ r.v.ownBlock.toList
theorem Hu.upd {w w' : World} {h B i : Nat} {S : Nat → StR} {l : List Hap} {cl : Bool} {v : Value} {c : Nat} (H : Hu w h B 8 S) (hi : i < 8) (ho : Off (ownS (S i)) w w') (hs : St w' B (S i).b l cl v c)
    (hc : c = (S i).c ∨ w.heap.size ≤ c) (hv : v.ownBlock = (S i).v.ownBlock ∨ ∃ g, v.ownBlock = some g ∧ w.heap.size ≤ g) : Hu w' h B 8 (upd S i ⟨(S i).b, l, cl, v, c⟩) := by
  have hmem : ∀ k, k ∈ ownS (S i) ↔ k = (S i).b ∨ k = (S i).c ∨ (S i).v.ownBlock = some k := by
    intro k
    unfold ownS
    cases hv : (S i).v.ownBlock with
    | none => simp
    | some g => simp [eq_comm]
  have hsi := H.st i hi
  have hoth : ∀ j, j < 8 → j ≠ i → St w' B (S j).b (S j).l (S j).cl (S j).v (S j).c := fun j hj hne => by
    have hsj := H.st j hj
    refine hsj.off ho ?_ ?_ (fun g hg => ?_)
    · rw [hmem]
      rintro (e | e | e)
      · exact H.db j i hj hi hne e
      · obtain ⟨s, r, hc⟩ := hsi.chn; rw [← e, hsj.blk] at hc; cases hc
      · obtain ⟨hg, _⟩ := own_lt hsi.own e
        exact own_ne hsi.own hsj.blk e
    · rw [hmem]
      rintro (e | e | e)
      · obtain ⟨s, r, hc⟩ := hsj.chn; rw [e, hsi.blk] at hc; cases hc
      · exact H.dc j i hj hi hne e
      · obtain ⟨s, r, hc⟩ := hsj.chn; exact own_nec hsi.own hc e
    · rw [hmem]
      rintro (e | e | e)
      · exact own_ne hsj.own hsi.blk (by rw [hg, e])
      · obtain ⟨s, r, hc⟩ := hsi.chn; exact own_nec hsj.own hc (by rw [hg, e])
      · exact H.dv j i hj hi hne g hg e
  have hc' : ∀ j, j < 8 → j ≠ i → c ≠ (S j).c := fun j hj hne e => by
    rcases hc with h1 | h1
    · exact H.dc j i hj hi hne (by rw [← e, h1])
    · have := (H.st j hj).ltc; omega
  have hv' : ∀ j, j < 8 → j ≠ i → ∀ g, v.ownBlock = some g → (S j).v.ownBlock ≠ some g := fun j hj hne g hg e => by
    rcases hv with h1 | ⟨g', h1, h2⟩
    · exact H.dv j i hj hi hne g e (by rw [← h1, hg])
    · rw [hg] at h1; cases h1
      have := (own_lt (H.st j hj).own e).1; omega
  refine ⟨?_, fun j hj => ?_, fun j k hj hk hne => ?_, fun j k hj hk hne => ?_, fun j k hj hk hne g hg => ?_, H.ge⟩
  · have hh : h ∉ ownS (S i) := by
      rw [hmem]
      rintro (e | e | e)
      · have := hsi.blk; rw [← e] at this; exact (hub_no H.blk).2 _ _ this
      · obtain ⟨s, r, hc⟩ := hsi.chn; rw [← e, H.blk] at hc; cases hc
      · rcases hsi.own.2 with ⟨e3, _⟩ | ⟨g', cap, cur, e3, _, hg', _⟩
        · rw [e3] at e; cases e
        · rw [e3] at e; have e4 : g' = h := Option.some.inj e; rw [e4] at hg'; exact (hub_no H.blk).1 _ _ hg'
    rw [(ho.block h (lt_of_block H.blk) hh).trans H.blk]
    have : hubC 8 S = hubC 8 (Go.Proofs.Ytlddeagolhdieaa.upd S i ⟨(S i).b, l, cl, v, c⟩) := by
      unfold hubC
      congr 1
      apply List.map_congr_left
      intro j _
      unfold Go.Proofs.Ytlddeagolhdieaa.upd
      by_cases e : j = i
      · subst e; rw [if_pos rfl]
      · rw [if_neg e]
    rw [this]
  · by_cases e : j = i
    · subst e; rw [upd_same]; exact hs
    · rw [upd_other _ _ e]; exact hoth j hj e
  · by_cases e : j = i <;> by_cases e2 : k = i
    · omega
    · subst e; rw [upd_same, upd_other _ _ e2]; exact H.db j k hj hk hne
    · subst e2; rw [upd_same, upd_other _ _ e]; exact H.db j k hj hk hne
    · rw [upd_other _ _ e, upd_other _ _ e2]; exact H.db j k hj hk hne
  · by_cases e : j = i <;> by_cases e2 : k = i
    · omega
    · subst e; rw [upd_same, upd_other _ _ e2]; exact hc' k hk e2
    · subst e2; rw [upd_same, upd_other _ _ e]; exact fun h => hc' j hj e h.symm
    · rw [upd_other _ _ e, upd_other _ _ e2]; exact H.dc j k hj hk hne
  · by_cases e : j = i <;> by_cases e2 : k = i
    · omega
    · subst e; rw [upd_same] at hg; rw [upd_other _ _ e2]; exact hv' k hk e2 g hg
    · subst e2; rw [upd_same]; rw [upd_other _ _ e] at hg; exact fun h => hv' j hj e g h hg
    · rw [upd_other _ _ e] at hg; rw [upd_other _ _ e2]; exact H.dv j k hj hk hne g hg

set_option maxRecDepth 100000 in
theorem stream_nil (talk : Int) (w : World) : Calls Try.prog 25 #[.pointer none, .int .i64 talk] w fun e w' => e = .returned (.tuple #[.pointer none, .int .i64 1]) ∧ w' = w := by
  go_enter Try.func25, Try.ntmps25
  go_wp2_with fail
  exact bodyPost_ret (results_tmp2 rfl _ _ _) rfl ⟨rfl, rfl⟩
set_option maxRecDepth 100000 in
theorem stream_out {h B : Nat} {S : Nat → StR} (talk : Int) (w : World) (_H : Hu w h B 8 S) (ht : talk < 0 ∨ 8 ≤ talk) : Calls Try.prog 25 #[.pointer (some ⟨h, 0, none⟩), .int .i64 talk] w fun e w' => e = .returned (.tuple #[.pointer none, .int .i64 2]) ∧ w' = w := by
  rcases ht with ht | ht
  · have h1 : decide (talk < 0) = true := decide_eq_true ht
    go_enter Try.func25, Try.ntmps25
    go_wp2_with fail
    exact bodyPost_ret (results_tmp2 rfl _ _ _) rfl ⟨rfl, rfl⟩
  · have h1 : decide (talk < 0) = false := decide_eq_false (by omega)
    have h2 : decide (8 ≤ talk) = true := decide_eq_true ht
    go_enter Try.func25, Try.ntmps25
    go_wp2_with fail
    exact bodyPost_ret (results_tmp2 rfl _ _ _) rfl ⟨rfl, rfl⟩
set_option maxRecDepth 100000 in
theorem stream_in {h B : Nat} {S : Nat → StR} (i : Nat) (w : World) (H : Hu w h B 8 S) (hi : i < 8) : Calls Try.prog 25 #[.pointer (some ⟨h, 0, none⟩), .int .i64 i] w fun e w' => e = .returned (.tuple #[.pointer (some ⟨(S i).b, 0, none⟩), .int .i64 0]) ∧ w' = w := by
  have h0 : decide ((i : Int) < 0) = false := decide_eq_false (by omega)
  have h1 : decide (8 ≤ i) = false := decide_eq_false (by omega)
  have h2 : (0 : Int) ≤ i := by omega
  have h3 : (i : Int) < 8 := by omega
  have c1 : w.cell? ⟨h, i, none⟩ = some (.pointer (some ⟨(S i).b, 0, none⟩)) := by rw [cell_of_row _ _ i _ _ _ H.blk, hubC_at S hi, if_pos hi]
  go_enter Try.func25, Try.ntmps25
  go_wp2_with fail
  exact bodyPost_ret (results_tmp2 rfl _ _ _) rfl ⟨rfl, rfl⟩

/-- what a call leaves of a hub -/
def OpIs (h B i : Nat) (S : Nat → StR) (r : Int) (l : List Hap) (cl : Bool) (w : World) (e : Ending) (w' : World) : Prop :=
  ∃ v c, e = .returned (.int .i64 r) ∧ Hu w' h B 8 (upd S i ⟨(S i).b, l, cl, v, c⟩) ∧ Off (ownS (S i)) w w' ∧ (c = (S i).c ∨ w.heap.size ≤ c) ∧ (v.ownBlock = (S i).v.ownBlock ∨ ∃ g, v.ownBlock = some g ∧ w.heap.size ≤ g)

set_option maxRecDepth 100000 in
set_option maxHeartbeats 2000000 in
theorem hadd_any {h B : Nat} {S : Nat → StR} (i : Nat) (A : Option Addr) (m : List Hap) (cap : Nat) (w : World) (H : Hu w h B 8 S) (hi : i < 8) (hB : B ≤ w.heap.size) (hA : Src w (S i).b A m) (hm : m.length ≤ 1000000000000) :
    Calls Try.prog 11 #[.pointer (some ⟨h, 0, none⟩), .int .i64 i, .slice A m.length cap] w (OpIs h B i S (addE (S i).l (S i).cl m) (addL (S i).l (S i).cl m) (S i).cl w) := by
  have HX := Lib.hid (stream_in i w H hi)
  have HA := Lib.hid (add_any B (S i).b (S i).c (S i).l (S i).cl (S i).v A m cap w (H.st i hi) hB hA hm)
  have HH := Lib.hid H
  clear H hA
  go_enter Try.func11, Try.ntmps11
  go_wp2_with fail
  refine HX.out.mono ?_
  rintro e w' ⟨rfl, rfl⟩
  go_wp2_with fail
  refine HA.out.mono ?_
  rintro e w2 ⟨v', c', rfl, hs, ho, hc, hv⟩
  have HR := Lib.hid (⟨HH.out.upd hi ho hs hc hv, ho, hc, hv⟩ : _ ∧ _ ∧ _ ∧ _)
  clear hs ho hc hv
  go_wp2_with fail
  go_ret
  exact ⟨v', c', rfl, HR.out.1, HR.out.2.1, HR.out.2.2.1, HR.out.2.2.2⟩

set_option maxRecDepth 100000 in
set_option maxHeartbeats 2000000 in
theorem hclose_any {h B : Nat} {S : Nat → StR} (i : Nat) (w : World) (H : Hu w h B 8 S) (hi : i < 8) (hB : B ≤ w.heap.size) :
    Calls Try.prog 13 #[.pointer (some ⟨h, 0, none⟩), .int .i64 i] w (OpIs h B i S (if (S i).cl then 9 else 0) (S i).l true w) := by
  have HX := Lib.hid (stream_in i w H hi)
  have HA := Lib.hid (end_any B (S i).b (S i).c (S i).l (S i).cl (S i).v w (H.st i hi) hB)
  have HH := Lib.hid H
  obtain ⟨rr, hrr⟩ : ∃ rr : Int, (if (S i).cl then (9 : Int) else 0) = rr := ⟨_, rfl⟩
  have HRR := Lib.hid hrr
  rw [hrr]
  clear H hrr
  go_enter Try.func13, Try.ntmps13
  go_wp2_with fail
  refine HX.out.mono ?_
  rintro e w' ⟨rfl, rfl⟩
  go_wp2_with fail
  refine HA.out.mono ?_
  rintro e w2 ⟨c', rfl, hs, ho, hc⟩
  have ho2 : Off (ownS (S i)) w' w2 := ho.mono (fun k hk => by unfold ownS; exact List.mem_append.2 (.inl hk))
  have HR := Lib.hid (⟨HH.out.upd hi ho2 hs hc (.inl rfl), ho2, hc⟩ : _ ∧ _ ∧ _)
  clear hs ho hc ho2
  rw [HRR.out]
  go_wp2_with fail
  go_ret
  exact ⟨_, c', rfl, HR.out.1, HR.out.2.1, HR.out.2.2, .inl rfl⟩

set_option maxRecDepth 100000 in
set_option maxHeartbeats 2000000 in
theorem hlen_any {h B : Nat} {S : Nat → StR} (i : Nat) (w : World) (H : Hu w h B 8 S) (hi : i < 8) :
    Calls Try.prog 22 #[.pointer (some ⟨h, 0, none⟩), .int .i64 i] w fun e w' => e = .returned (.int .i64 (S i).l.length) ∧ w' = w := by
  have HX := Lib.hid (stream_in i w H hi)
  have hs := H.st i hi
  have HC := Lib.hid (load64_any (S i).b 3 (S i).l.length w (by rw [cell_of_row _ _ 3 _ _ _ hs.blk]; rfl))
  clear H hs
  go_enter Try.func22, Try.ntmps22
  go_wp2_with fail
  refine HX.out.mono ?_
  rintro e w' ⟨rfl, rfl⟩
  go_wp2_with fail
  refine HC.out.mono ?_
  rintro e w2 ⟨rfl, rfl⟩
  go_wp2_with fail
  go_ret
  exact ⟨rfl, rfl⟩

/-- a watch at g: which stream, where -/
def WaB (w : World) (g b at' : Nat) : Prop := w.heap[g]? = some (.cells #[.pointer (some ⟨b, 0, none⟩), .int .i64 at'] TWa (0, 0))

def WatchIs (i : Nat) (S : Nat → StR) (from' : Int) (w : World) (e : Ending) (w' : World) : Prop :=
  (0 ≤ from' ∧ from' ≤ (S i).l.length ∧ e = .returned (.tuple #[.pointer (some ⟨w.heap.size, 0, none⟩), .int .i64 0]) ∧ WaB w' w.heap.size (S i).b from'.toNat ∧ Below w.heap.size w w') ∨
  (¬ (0 ≤ from' ∧ from' ≤ (S i).l.length) ∧ e = .returned (.tuple #[.pointer none, .int .i64 5]) ∧ w' = w)
set_option maxRecDepth 100000 in
set_option maxHeartbeats 2000000 in
theorem hwatch_any {h B : Nat} {S : Nat → StR} (i : Nat) (from' : Int) (w : World) (H : Hu w h B 8 S) (hi : i < 8) :
    Calls Try.prog 15 #[.pointer (some ⟨h, 0, none⟩), .int .i64 i, .int .i64 from'] w (WatchIs i S from' w) := by
  have HX := Lib.hid (stream_in i w H hi)
  have hs := H.st i hi
  have HC := Lib.hid (load64_any (S i).b 3 (S i).l.length w (by rw [cell_of_row _ _ 3 _ _ _ hs.blk]; rfl))
  clear H hs
  generalize hL : (S i).l.length = L at *
  have HL := Lib.hid hL
  clear hL
  by_cases h0 : from' < 0
  · have h1 : decide (from' < 0) = true := decide_eq_true h0
    go_enter Try.func15, Try.ntmps15
    go_wp2_with fail
    refine HX.out.mono ?_
    rintro e w' ⟨rfl, rfl⟩
    go_wp2_with fail
    exact bodyPost_ret (results_tmp2 rfl _ _ _) rfl (.inr ⟨fun h => by omega, rfl, rfl⟩)
  · have h1 : decide (from' < 0) = false := decide_eq_false h0
    go_enter Try.func15, Try.ntmps15
    go_wp2_with fail
    refine HX.out.mono ?_
    rintro e w' ⟨rfl, rfl⟩
    go_wp2_with fail
    refine HC.out.mono ?_
    rintro e w2 ⟨rfl, rfl⟩
    by_cases h2 : (L : Int) < from'
    · have h3 : decide ((L : Int) < from') = true := decide_eq_true h2
      go_wp2_with fail
      exact bodyPost_ret (results_tmp2 rfl _ _ _) rfl (.inr ⟨fun h => by rw [HL.out] at h; omega, rfl, rfl⟩)
    · have h3 : decide ((L : Int) < from') = false := decide_eq_false h2
      obtain ⟨f, rfl⟩ : ∃ f : Nat, from' = f := ⟨from'.toNat, by omega⟩
      go_wp2_with fail
      exact bodyPost_ret (results_tmp2 rfl _ _ _) rfl (.inl ⟨by omega, by rw [HL.out]; omega, rfl, heap_alloc_new _ _, below_new _ _⟩)

/-- a hub stands where only a block of another kind is turned -/
theorem Hu.far {w w' : World} {h B n g : Nat} {S : Nat → StR} {X : Array Value} {ty : TypeId} {fr : Nat × Nat} (H : Hu w h B n S) (ho : Off [g] w w') (hg : w.heap[g]? = some (.cells X ty fr)) (t1 : ty ≠ THub) (t2 : ty ≠ TSt) (t3 : ty ≠ THp) : Hu w' h B n S := by
  have hne : ∀ k Y ty2 fr2, w.heap[k]? = some (.cells Y ty2 fr2) → ty2 ≠ ty → k ∉ [g] := fun k Y ty2 fr2 hk hn e => by
    simp only [List.mem_singleton] at e
    rw [e, hg] at hk
    injection hk with hk; injection hk with _ hk _
    exact hn hk.symm
  refine ⟨(ho.block h (lt_of_block H.blk) (hne h _ _ _ H.blk (Ne.symm t1))).trans H.blk, fun j hj => ?_, H.db, H.dc, H.dv, H.ge⟩
  have hs := H.st j hj
  refine hs.off ho (hne _ _ _ _ hs.blk (Ne.symm t2)) (fun e => ?_) (fun k hk e => ?_)
  · simp only [List.mem_singleton] at e
    obtain ⟨s, r, hc⟩ := hs.chn
    rw [e, hg] at hc; cases hc
  · rcases hs.own.2 with ⟨e3, _⟩ | ⟨g', cap, cur, e3, _, hg', _⟩
    · rw [e3] at hk; cases hk
    · rw [e3] at hk; cases hk
      exact hne _ _ _ _ hg' (Ne.symm t3) e

def NextIs (B i g at' : Nat) (S : Nat → StR) (h : Nat) (most : Int) (w : World) (e : Ending) (w' : World) : Prop :=
  ∃ v', e = .returned (.tuple #[v', .bool (!(S i).cl || decide (at' + nx (S i).l at' most < (S i).l.length))]) ∧ Hu w' h B 8 S ∧ WaB w' g (S i).b (at' + nx (S i).l at' most) ∧
    w'.ownsRow w.heap.size THp 3 v' (nx (S i).l at' most) (hapsC (((S i).l.drop at').take (nx (S i).l at' most))) ∧ Off [(S i).b, g] w w'
set_option maxRecDepth 100000 in
set_option maxHeartbeats 4000000 in
theorem next_any {h B : Nat} {S : Nat → StR} (i g at' : Nat) (most : Int) (w : World) (H : Hu w h B 8 S) (hi : i < 8) (hB : B ≤ w.heap.size) (hw : WaB w g (S i).b at') (hat : at' ≤ (S i).l.length) (hmo : -9223372036854775808 ≤ most ∧ most ≤ 9223372036854775807) :
    Calls Try.prog 17 #[.pointer (some ⟨g, 0, none⟩), .int .i64 most] w (NextIs B i g at' S h most w) := by
  have HA : Hid (∀ W, Below w.heap.size w W → Calls Try.prog 29 #[.pointer (some ⟨(S i).b, 0, none⟩), .int .i64 at', .int .i64 most] W (FromIs B (S i).b (S i).c (S i).l (S i).cl (S i).v at' most W)) := Lib.hid (fun W hW => from_any B (S i).b (S i).c (S i).l (S i).cl (S i).v at' most W ((H.st i hi).on hW) (Nat.le_trans hB hW.size) hat hmo)
  have c0 : w.cell? ⟨g, 0, none⟩ = some (.pointer (some ⟨(S i).b, 0, none⟩)) := by rw [cell_of_row _ _ 0 _ _ _ hw]; rfl
  have c1 : w.cell? ⟨g, 1, none⟩ = some (.int .i64 at') := by rw [cell_of_row _ _ 1 _ _ _ hw]; rfl
  have HH := Lib.hid (And.intro H hw)
  have hlim := (H.st i hi).lim
  clear H hw
  go_enter Try.func17, Try.ntmps17
  have hq := nx_le (S i).l at' most hat
  have HBG := Lib.hid (show (S i).b ≠ g from fun e => by
    have h1 := (HH.out.1.st i hi).blk
    rw [e, HH.out.2] at h1
    injection h1 with h1; injection h1 with _ h1 _; exact absurd h1 (by decide))
  go_upto_region 3 with (fail)
  go_region_held3 (fun w' => w'.cell? ⟨g, 0, none⟩ = some (.pointer (some ⟨(S i).b, 0, none⟩)) ∧ w'.cell? ⟨g, 1, none⟩ = some (.int .i64 at'))
    (first | exact ⟨c0, c1⟩ | exact ⟨k0, k1⟩)
    (first | (go_at_call 29; refine (HA.out w.drew ⟨rfl, rfl, rfl, Nat.le_refl _, fun _ _ => rfl⟩).mono ?_; rintro e w2 ⟨v', rfl, hs, hown, ho⟩; have hgb := (ho.block g (lt_of_block HH.out.2) (by simp; exact fun e => HBG.out e.symm)).trans HH.out.2; have k0 : w2.cell? ⟨g, 0, none⟩ = some (.pointer (some ⟨(S i).b, 0, none⟩)) := (by rw [cell_of_row _ _ 0 _ _ _ hgb]; rfl); have k1 : w2.cell? ⟨g, 1, none⟩ = some (.int .i64 at') := (by rw [cell_of_row _ _ 1 _ _ _ hgb]; rfl); have HW2 := Lib.hid (And.intro hs (And.intro hown (And.intro ho hgb))); clear hs hown ho hgb))
  obtain ⟨hs, hown, ho, hgb⟩ := HW2.out
  have hown0 : w2.ownsRow w.heap.size THp 3 v' (nx (S i).l at' most) (hapsC (((S i).l.drop at').take (nx (S i).l at' most))) := hown
  have ho0 : Off [(S i).b] w w2 := ⟨ho.os, ho.tape, ho.output, ho.size, fun k hk hn => ho.block k hk hn⟩
  obtain ⟨A', c', rfl⟩ := own_slice hown0
  have hnw : ownS (S i) = ownS (S i) := rfl
  have hu2 : Hu w2 h B 8 (upd S i ⟨(S i).b, (S i).l, (S i).cl, (S i).v, (S i).c⟩) := HH.out.1.upd hi (ho0.mono (fun k hk => by simp only [List.mem_singleton] at hk; subst hk; unfold ownS; simp)) hs (.inl rfl) (.inl rfl)
  have hup : upd S i ⟨(S i).b, (S i).l, (S i).cl, (S i).v, (S i).c⟩ = S := by
    funext j
    unfold upd
    by_cases e : j = i
    · subst e; rw [if_pos rfl]
    · rw [if_neg e]
  rw [hup] at hu2
  have hset := heap_setCell_same w2 g 1 _ _ (.int .i64 ((at' : Int) + (nx (S i).l at' most : Nat))) hgb
  have hos := off_set w2 g 1 (.int .i64 ((at' : Int) + (nx (S i).l at' most : Nat)))
  have HY := Lib.hid (And.intro hu2 (And.intro hown0 (And.intro ho0 (And.intro hgb (And.intro hset hos)))))
  have f1 : w2.frozen? ⟨g, 1, none⟩ = false := frozen_of_row _ _ 1 _ _ hgb
  clear hs hown ho hgb hown0 ho0 hu2 hup hnw HW2 HA hset hos c0 c1
  obtain ⟨q, hqq⟩ : ∃ q, nx (S i).l at' most = q := ⟨_, rfl⟩
  have HQ := Lib.hid hqq
  rw [hqq] at HY hq ⊢
  clear hqq
  go_wp2_with fail
  obtain ⟨hu2, hown, ho, hgb, hset, hos⟩ := HY.out
  have hqq := HQ.out
  subst hqq
  have ht : ((w2.setCell ⟨g, 1, none⟩ (.int .i64 ((at' : Int) + (nx (S i).l at' most : Nat)))).heap[g]?) = some (.cells #[.pointer (some ⟨(S i).b, 0, none⟩), .int .i64 ((at' + nx (S i).l at' most : Nat) : Int)] TWa) := by
    rw [hset]
    rfl
  have hgw := lt_of_block HH.out.2
  refine bodyPost_ret (results_tmp2 rfl _ _ _) rfl ⟨_, ?_, hu2.far hos hgb (by decide) (by decide) (by decide), ?_, own_off hown hos ?_, ?_⟩
  · rfl
  · exact ht
  · intro k hk cur fr he
    simp only [List.mem_singleton] at hk
    subst hk
    rw [hgb] at he; injection he with he; injection he with _ he _
    exact absurd he (by decide)
  · exact (ho.mono (by simp)).trans (hos.mono (by simp)) (fun k hk => .inl hk)
end Go.Proofs.Ytlddeagolhdieaa
