/- A stream's from. -/
import Derived.Test.YtlddeagolhdieaaHubAdd
import Derived.Lib.Hide
import Derived.Deep.RegionHeld3
namespace Go.Proofs.Ytlddeagolhdieaa
open Go.RowKit Go.MuLone Go.Conc

set_option maxRecDepth 100000 in
set_option maxHeartbeats 4000000 in
/-- slices.Clone of some happenings -/
theorem hclone_any (ad : Addr) (m : List Hap) (c : Nat) (w : World) (ha : ∀ j u, (hapsC m)[j]? = some u → w.cell? (ad.add j) = some u) (hm : m.length ≤ 1000000) :
    Calls Try.prog 40 #[.slice (some ad) m.length c] w fun e w' => ∃ A' c', e = .returned (.slice A' m.length c') ∧ w'.ownsRow w.heap.size THp 3 (.slice A' m.length c') m.length (hapsC m) ∧ Below w.heap.size w w' := by
  have HA := Lib.hid ha
  obtain ⟨i0, hi, hz0, hz1, hz2⟩ := info_parts info_hap
  have q24 : ∀ (w : World) (a : Option Addr) (n c n' c' : Nat), (binOp .eql THs (.slice a n c) (.slice none n' c')).run Try.prog w = .ok (.bool a.isNone) w := fun w a n c n' c' => Lib.run_eql_slice_nil w _ _ a n c n' c' Try.underlying27
  clear ha
  go_enter Try.func40, Try.ntmps40
  go_wp2_with (at_builtin; refine wpList_append_own _ rfl _ _ THs rfl w.heap.size THp i0 (.agg #[.int .i64 0, .string ByteArray.empty, .int .i64 0]) 3 32 Try.underlying27 hi hz0 hz1 hz2 rfl (by decide) _ _ _ rfl (World.ownsRow_made w #[] 0 (Nat.le_refl _) (Nat.zero_le _) rfl) ad m.length c (hapsC m) rfl (hapsC_len m) ?qc2 (hapsC_one m) ?qc4 ?qc5 ?qc6 ?_)
  case qc2 => exact fun j u hj => Lib.cell?_alloc_some _ (HA.out j u hj)
  case qc4 => unfold maxLen; omega
  case qc5 => omega
  case qc6 => simp
  intro v' w1 hown hgrow _
  have hown' : w1.ownsRow w.heap.size THp 3 v' m.length (hapsC m) := by
    first | exact hown | simpa using hown
  obtain ⟨A', c', rfl⟩ := own_slice hown'
  have hb : Below w.heap.size w w1 := ⟨hgrow.os, hgrow.tape, hgrow.output, by have := hgrow.size; simp at this; omega, fun k hk => (hgrow.block k (by simp; omega) (by simp [Value.ownBlock]; omega)).trans (heap_alloc_old w _ hk)⟩
  have HE := Lib.hid hown'; have HB := Lib.hid hb
  clear hb hown hgrow hown'
  go_wp2_with fail
  go_ret
  exact ⟨A', c', rfl, HE.out, HB.out⟩

/-- how many are told -/
def nx (l : List Hap) (at' : Nat) (most : Int) : Nat := (if (if (l.length : Int) - at' < most then (l.length : Int) - at' else most) < 0 then 0 else if (l.length : Int) - at' < most then (l.length : Int) - at' else most).toNat
theorem nx_int (l : List Hap) (at' : Nat) (most : Int) : (if (if (l.length : Int) - at' < most then (l.length : Int) - at' else most) < 0 then 0 else if (l.length : Int) - at' < most then (l.length : Int) - at' else most) = (nx l at' most : Int) := by
  unfold nx
  split <;> split <;> omega
theorem nx_le (l : List Hap) (at' : Nat) (most : Int) (h : at' ≤ l.length) : at' + nx l at' most ≤ l.length := by
  unfold nx
  split <;> split <;> omega
theorem hapsC_drop : ∀ (l : List Hap) (a : Nat), hapsC (l.drop a) = (hapsC l).drop (a * 3)
  | l, 0 => by simp
  | [], a + 1 => by simp [hapsC]
  | h :: l, a + 1 => by
    rw [List.drop_succ_cons, hapsC_drop l a]
    show (hapsC l).drop (a * 3) = (hapC h ++ hapsC l).drop ((a + 1) * 3)
    rw [show (a + 1) * 3 = (hapC h).length + a * 3 by simp [hapC]; omega, List.drop_append]
    simp
theorem hapsC_take : ∀ (l : List Hap) (a : Nat), hapsC (l.take a) = (hapsC l).take (a * 3)
  | l, 0 => by simp [hapsC]
  | [], a + 1 => by simp [hapsC]
  | h :: l, a + 1 => by
    rw [List.take_succ_cons]
    show hapC h ++ hapsC (l.take a) = (hapC h ++ hapsC l).take ((a + 1) * 3)
    rw [hapsC_take l a, show (a + 1) * 3 = (hapC h).length + a * 3 by simp [hapC]; omega, List.take_append, List.take_of_length_le (Nat.le_add_right _ _), Nat.add_sub_cancel_left]
theorem hapsC_part {l : List Hap} {a q j : Nat} {u : Value} (h : (hapsC ((l.drop a).take q))[j]? = some u) : (hapsC l)[a * 3 + j]? = some u := by
  rw [hapsC_take, hapsC_drop, List.getElem?_take] at h
  split at h
  · rwa [List.getElem?_drop] at h
  · cases h
theorem own_cells {w : World} {B n : Nat} {g c : Nat} {xs : List Value} (h : w.ownsRow B THp 3 (.slice (some ⟨g, 0, none⟩) n c) n xs) : n ≤ c ∧ ∀ j u, xs[j]? = some u → w.cell? ⟨g, j, none⟩ = some u := by
  rcases h.2 with ⟨e, _⟩ | ⟨g', cap, cur, e, _, hg, hn, _, _, ht⟩
  · cases e
  · cases e
    refine ⟨hn, fun j u hu => ?_⟩
    rw [cell_of_row w g j _ _ _ hg]
    rw [← ht, List.getElem?_take] at hu
    split at hu
    · simpa using hu
    · cases hu
theorem own_addr {w : World} {B n : Nat} {A : Option Addr} {c : Nat} {xs : List Value} (h : w.ownsRow B THp 3 (.slice A n c) n xs) (hn : 0 < n) : ∃ g, A = some ⟨g, 0, none⟩ := by
  rcases h.2 with ⟨_, h0⟩ | ⟨g, cap, cur, e, _⟩
  · omega
  · cases e; exact ⟨g, rfl⟩
def FromIs (B b c : Nat) (l : List Hap) (cl : Bool) (v : Value) (at' : Nat) (most : Int) (w : World) (e : Ending) (w' : World) : Prop :=
  ∃ v', e = .returned (.tuple #[v', .bool (!cl || decide (at' + nx l at' most < l.length)), .chan (some c)]) ∧ St w' B b l cl v c ∧ w'.ownsRow w.heap.size THp 3 v' (nx l at' most) (hapsC ((l.drop at').take (nx l at' most))) ∧ Off [b] w w'

set_option maxRecDepth 100000 in
set_option maxHeartbeats 8000000 in
theorem from_any (B b c : Nat) (l : List Hap) (cl : Bool) (v : Value) (at' : Nat) (most : Int) (w : World) (hs : St w B b l cl v c) (_hB : B ≤ w.heap.size) (hat : at' ≤ l.length) (_hmo : -9223372036854775808 ≤ most ∧ most ≤ 9223372036854775807) :
    Calls Try.prog 29 #[.pointer (some ⟨b, 0, none⟩), .int .i64 at', .int .i64 most] w (FromIs B b c l cl v at' most w) := by
  have h0 : w.cell? ⟨b, 0, none⟩ = some (.int .i32 0) := by rw [cell_of_row w b 0 _ _ _ hs.blk]; rfl
  have f0 : w.frozen? ⟨b, 0, none⟩ = false := frozen_of_row w b 0 _ _ hs.blk
  have h1 : (w.setCell ⟨b, 0, none⟩ (.int .i32 1)).heap[b]? = some (.cells (stL v l.length cl c) TSt (0, 0)) := heap_setCell_same _ b 0 _ _ (.int .i32 1) hs.blk
  have o1 := off_set w b 0 (.int .i32 1)
  have H1 := Lib.hid (And.intro h1 (And.intro o1 (And.intro (own_off hs.own o1 (fun g hg => by simp only [List.mem_singleton] at hg; subst hg; exact hs.nb)) (And.intro hs.chn hs.ne))))
  have HS := Lib.hid hs
  have hlim := hs.lim
  clear hs h1 o1
  go_enter_defers Try.func29, Try.ntmps29
  go_upto_region 1 with (fail)
  go_wp2_with fail
  refine (lock_free muLib ⟨b, 0, none⟩ _ h0 f0).mono ?_
  rintro e w1 ⟨rfl, hw1⟩
  rw [← hw1] at H1
  have hcc : w1.heap[c]? = w.heap[c]? := by rw [hw1]; exact Below.heap_setCell _ _ _ _ (Ne.symm H1.out.2.2.2.2)
  have hsz : w1.heap.size = w.heap.size := by rw [hw1]; simp
  have HSZ := Lib.hid hsz
  have HCC := Lib.hid hcc
  clear hw1 h0 f0 hcc hsz
  have HCH : Hid (∃ s r, w1.heap[c]? = some (.chan 0 #[] false s r false)) := Lib.hid (by rw [HCC.out]; exact HS.out.chn)
  obtain ⟨A0, c0, hv⟩ := own_slice HS.out.own
  have h2 : w1.cell? ⟨b, 2, none⟩ = some (.slice A0 l.length c0) := by rw [cell_of_row w1 b 2 _ _ _ H1.out.1, ← hv]; rfl
  have h4 : w1.cell? ⟨b, 4, none⟩ = some (.bool cl) := by rw [cell_of_row w1 b 4 _ _ _ H1.out.1]; rfl
  have h5 : w1.cell? ⟨b, 5, none⟩ = some (.chan (some c)) := by rw [cell_of_row w1 b 5 _ _ _ H1.out.1]; rfl
  have HV := Lib.hid hv
  clear hv
  go_upto_region 4 with (fail)
  have hnx := nx_int l at' most
  have hnl := nx_le l at' most hat
  obtain ⟨q, hq⟩ : ∃ q, nx l at' most = q := ⟨_, rfl⟩
  rw [hq] at hnx hnl
  have HQ := Lib.hid hq
  rw [hnx]
  generalize (if (l.length : Int) - at' < most then (l.length : Int) - at' else most) = z at *
  clear hnx hq _hmo
  rcases Nat.eq_zero_or_pos q with hq0 | hq0
  · subst hq0
    have HFIN : Hid (∀ (w2 : World), Off [] w1 w2 → ∀ x : Bool, x = (!cl || decide (at' < l.length)) → FromIs B b c l cl v at' most w (.returned (.tuple #[.slice none 0 0, .bool x, .chan (some c)])) (w2.setCell ⟨b, 0, none⟩ (.int .i32 0))) := Lib.hid (fun w2 ho x hx => by
      obtain ⟨p1, p2, p3, _, _⟩ := H1.out
      have q1 := (ho.block b (lt_of_block p1) (by simp)).trans p1
      obtain ⟨s, r, hc⟩ := HCH.out
      have hf := HS.out.freed q1 (p2.trans ho (fun k hk => by cases hk)) (by simp) (own_off p3 ho (fun g hg => by cases hg)) ⟨s, r, (ho.block c (lt_of_block hc) (by simp)).trans hc⟩ HS.out.ge.2 HS.out.lim
      unfold FromIs
      rw [HQ.out]
      exact ⟨.slice none 0 0, by rw [hx]; rfl, hf.1, World.ownsRow_nil _ _ _ _, hf.2⟩)
    have hoq : ∀ nq, Off [] w1 (w1.drewN nq) := fun nq => ⟨rfl, rfl, rfl, Nat.le_refl _, fun _ _ _ => rfl⟩
    have HOQ := Lib.hid hoq
    clear hoq
    cases cl with
    | true =>
      go_upto_region 5 with (fail)
      go_quiet (fail)
      go_wp2_with fail
      have HO := Lib.hid (HOQ.out nq)
      have hb2 := (HO.out.block b (lt_of_block H1.out.1) (by simp)).trans H1.out.1
      generalize w1.drewN nq = w2 at *
      refine leaves_cons (f := 37) (args := #[.pointer (some ⟨b, 0, none⟩)]) (by simp) (by simp [go_sem]) ?_
      refine (unlock_deferred muLib ⟨b, 0, none⟩ .returning _ (by rw [cell_of_row w2 b 0 _ _ _ hb2]; rfl) (frozen_of_row w2 b 0 _ _ hb2)).mono ?_
      rintro e u' w'' ⟨rfl, rfl, rfl⟩
      refine ⟨_, results_tmp3 rfl _ _ _, ?_⟩
      exact HFIN.out w2 HO.out (decide (at' < l.length)) (by simp)
    | false =>
      go_upto_region 5 with (fail)
      go_quiet (fail)
      go_wp2_with fail
      have HO := Lib.hid (HOQ.out nq)
      have hb2 := (HO.out.block b (lt_of_block H1.out.1) (by simp)).trans H1.out.1
      generalize w1.drewN nq = w2 at *
      refine leaves_cons (f := 37) (args := #[.pointer (some ⟨b, 0, none⟩)]) (by simp) (by simp [go_sem]) ?_
      refine (unlock_deferred muLib ⟨b, 0, none⟩ .returning _ (by rw [cell_of_row w2 b 0 _ _ _ hb2]; rfl) (frozen_of_row w2 b 0 _ _ hb2)).mono ?_
      rintro e u' w'' ⟨rfl, rfl, rfl⟩
      refine ⟨_, results_tmp3 rfl _ _ _, ?_⟩
      exact HFIN.out w2 HO.out true (by simp)
  · have hv1 := H1.out.2.2.1
    rw [HV.out] at hv1
    obtain ⟨g, rfl⟩ := own_addr hv1 (by omega)
    obtain ⟨hcap, hcells⟩ := own_cells hv1
    have hlm : ((l.drop at').take q).length = q := by rw [List.length_take, List.length_drop]; omega
    have hce : (c0 = at') = False := eq_false (by omega)
    have k1 : (at' : Int) + q ≤ l.length := by omega
    have k2 : (0 : Int) ≤ at' := by omega
    have k3 : (at' : Int) ≤ (at' : Int) + q := by omega
    have k4 : (at' : Int) + q ≤ c0 := by omega
    have k5 : (at' : Int) ≤ c0 := by omega
    have k6 : ((q : Int) == 0) = false := by rw [beq_eq_false_iff_ne]; omega
    have k7 : IntKind.i64.wrap ((at' : Int) + q) = (at' : Int) + q := IntWalk.i64_in _ (by omega)
    have HCL := Lib.hid (And.intro hcells (And.intro hlm hv1))
    clear hcells hlm hv1
    have k8 : ((at' : Int) + q).toNat - at' = q := by omega
    have hC : ∀ W cc, Below w1.heap.size w1 W → Calls Try.prog 40 #[.slice (some ⟨g, at' * 3, none⟩) q cc] W fun e w' => ∃ A' c', e = .returned (.slice A' q c') ∧ w'.ownsRow W.heap.size THp 3 (.slice A' q c') q (hapsC ((l.drop at').take q)) ∧ Below W.heap.size W w' := fun W cc hW => by
      have h := hclone_any ⟨g, at' * 3, none⟩ ((l.drop at').take q) cc W (fun j u hu => by
        have h := HCL.out.1 _ u (hapsC_part hu)
        rw [Addr.add_lit]
        exact (hW.cell (World.block_lt_of_cell? w1 _ h)).trans h) (by rw [HCL.out.2.1]; omega)
      rw [HCL.out.2.1] at h
      exact h
    have HC := Lib.hid hC
    clear hC
    have HFIN : Hid (∀ (w3 : World) A' c', w3.ownsRow w1.heap.size THp 3 (.slice A' q c') q (hapsC ((l.drop at').take q)) → Below w1.heap.size w1 w3 → ∀ x : Bool, x = (!cl || decide (at' + q < l.length)) → FromIs B b c l cl v at' most w (.returned (.tuple #[.slice A' q c', .bool x, .chan (some c)])) (w3.setCell ⟨b, 0, none⟩ (.int .i32 0))) := Lib.hid (fun w3 A' c' hown hb x hx => by
      obtain ⟨p1, p2, p3, _, _⟩ := H1.out
      have ho : Off [] w1 w3 := Off.of_below hb
      have q1 := (ho.block b (lt_of_block p1) (by simp)).trans p1
      obtain ⟨s, r, hc⟩ := HCH.out
      have hf := HS.out.freed q1 (p2.trans ho (fun k hk => by cases hk)) (by simp) (own_off p3 ho (fun g hg => by cases hg)) ⟨s, r, (ho.block c (lt_of_block hc) (by simp)).trans hc⟩ HS.out.ge.2 HS.out.lim
      unfold FromIs
      rw [HQ.out]
      refine ⟨.slice A' q c', by rw [hx], hf.1, ?_, hf.2⟩
      rw [← HSZ.out]
      exact own_off hown (off_set w3 b 0 _) (fun g hg => by simp only [List.mem_singleton] at hg; subst hg; exact st_no q1))
    go_upto_region 6 with (fail)
    cases cl with
    | true =>
      go_region_held3 (fun w' => w'.cell? ⟨b, 2, none⟩ = some (.slice (some ⟨g, 0, none⟩) l.length c0) ∧ w'.cell? ⟨b, 4, none⟩ = some (.bool true) ∧ w'.cell? ⟨b, 5, none⟩ = some (.chan (some c)))
        (first | exact ⟨h2, h4, h5⟩ | exact ⟨(hb2.cell (World.block_lt_of_cell? w1 _ h2)).trans h2, (hb2.cell (World.block_lt_of_cell? w1 _ h4)).trans h4, (hb2.cell (World.block_lt_of_cell? w1 _ h5)).trans h5⟩)
        (first | (go_at_call 40; refine (HC.out w1.drew _ ⟨rfl, rfl, rfl, Nat.le_refl _, fun _ _ => rfl⟩).mono ?_; rintro e w3 ⟨A', c', rfl, ho, hb⟩; have hb2 : Below w1.heap.size w1 w3 := ⟨hb.os, hb.tape, hb.output, hb.size, fun k hk => hb.block k hk⟩; have HW3 := Lib.hid (show w3.ownsRow w1.heap.size THp 3 (.slice A' q c') q (hapsC ((l.drop at').take q)) ∧ True ∧ Below w1.heap.size w1 w3 from ⟨ho, trivial, hb2⟩); clear ho hb))
      clear h2 h4 h5
      go_wp2_with fail
      have hb2 := (HW3.out.2.2.block b (lt_of_block H1.out.1)).trans H1.out.1
      refine leaves_cons (f := 37) (args := #[.pointer (some ⟨b, 0, none⟩)]) (by simp) (by simp [go_sem]) ?_
      refine (unlock_deferred muLib ⟨b, 0, none⟩ .returning _ (by rw [cell_of_row w3 b 0 _ _ _ hb2]; rfl) (frozen_of_row w3 b 0 _ _ hb2)).mono ?_
      rintro e u' w'' ⟨rfl, rfl, rfl⟩
      refine ⟨_, results_tmp3 rfl _ _ _, ?_⟩
      exact HFIN.out w3 A' c' HW3.out.1 HW3.out.2.2 (decide ((at' : Int) + q < l.length)) (by rw [Bool.not_true, Bool.false_or, decide_eq_decide]; omega)
    | false =>
      refine wp_region_noPanic ?_
      refine wp_region_any (by kernel_rfl) ?_
      refine wpAny_of_held (S := (fun w' : World => w'.cell? ⟨b, 2, none⟩ = some (.slice (some ⟨g, 0, none⟩) l.length c0) ∧ w'.cell? ⟨b, 4, none⟩ = some (.bool false) ∧ w'.cell? ⟨b, 5, none⟩ = some (.chan (some c)))) _ _ _ _ ?_
      have hHeld := (⟨h2, h4, h5⟩ : (fun w' : World => w'.cell? ⟨b, 2, none⟩ = some (.slice (some ⟨g, 0, none⟩) l.length c0) ∧ w'.cell? ⟨b, 4, none⟩ = some (.bool false) ∧ w'.cell? ⟨b, 5, none⟩ = some (.chan (some c))) w1.drew)
      refine wpAnyH_take (i := 0) (v := ?_) (by simp only [List.getElem?_toArray, List.getElem?_cons_zero]; rfl) (by kernel_rfl) (by kernel_rfl) (by kernel_rfl) (by exact fun _ _ _ h => h) (Or.inl ⟨by rfl, ?_⟩) (by assumption) ?_
      rotate_left
      · (intro w hSw; (try clear hHeld); (try dsimp only at hSw); (try go_split_ands); go_simp)
        try with_reducible rfl
      try simp only [Act.put, List.setIfInBounds_toArray, List.set_cons_zero, List.set_cons_succ]
      refine wpAnyH_take (i := 1) (v := ?_) (by simp only [List.getElem?_toArray, List.getElem?_cons_succ, List.getElem?_cons_zero]; rfl) (by kernel_rfl) (by kernel_rfl) (by kernel_rfl) (by exact fun _ _ _ h => h) (Or.inl ⟨by rfl, ?_⟩) (by assumption) ?_
      rotate_left
      · (intro w hSw; (try clear hHeld); (try dsimp only at hSw); (try go_split_ands); go_simp)
        try with_reducible rfl
      try simp only [Act.put, List.setIfInBounds_toArray, List.set_cons_zero, List.set_cons_succ]
      refine wpAnyH_take (i := 2) (v := ?_) (by simp only [List.getElem?_toArray, List.getElem?_cons_succ, List.getElem?_cons_zero]; rfl) (by kernel_rfl) (by kernel_rfl) (by kernel_rfl) (by exact fun _ _ _ h => h) (Or.inl ⟨by rfl, ?_⟩) (by assumption) ?_
      rotate_left
      · (intro w hSw; (try clear hHeld); (try dsimp only at hSw); (try go_split_ands); go_simp)
        try with_reducible rfl
      try simp only [Act.put, List.setIfInBounds_toArray, List.set_cons_zero, List.set_cons_succ]
      refine wpAnyH_take (i := 3) (v := ?_) (by simp only [List.getElem?_toArray, List.getElem?_cons_succ, List.getElem?_cons_zero]; rfl) (by kernel_rfl) (by kernel_rfl) (by kernel_rfl) (by exact fun _ _ _ h => h) (Or.inl ⟨by rfl, ?_⟩) (by assumption) ?_
      rotate_left
      · (intro w hSw; (try clear hHeld); (try dsimp only at hSw); (try go_split_ands); go_simp)
        try with_reducible rfl
      try simp only [Act.put, List.setIfInBounds_toArray, List.set_cons_zero, List.set_cons_succ]
      refine wpAnyH_take (i := 4) (v := ?_) (by simp only [List.getElem?_toArray, List.getElem?_cons_succ, List.getElem?_cons_zero]; rfl) (by kernel_rfl) (by kernel_rfl) (by kernel_rfl) (by exact fun _ _ _ h => h) (Or.inl ⟨by rfl, ?_⟩) (by assumption) ?_
      rotate_left
      · (intro w hSw; (try clear hHeld); (try dsimp only at hSw); (try go_split_ands); go_simp)
        try with_reducible rfl
      try simp only [Act.put, List.setIfInBounds_toArray, List.set_cons_zero, List.set_cons_succ]
      refine wpAnyH_take (i := 5) (v := ?_) (by simp only [List.getElem?_toArray, List.getElem?_cons_succ, List.getElem?_cons_zero]; rfl) (by kernel_rfl) (by kernel_rfl) (by kernel_rfl) (by exact fun _ _ _ h => h) (Or.inl ⟨by rfl, ?_⟩) (by assumption) ?_
      rotate_left
      · (intro w hSw; (try clear hHeld); (try dsimp only at hSw); (try go_split_ands); go_simp)
        try with_reducible rfl
      try simp only [Act.put, List.setIfInBounds_toArray, List.set_cons_zero, List.set_cons_succ]
      refine wpAnyH_take (i := 6) (v := ?_) (by simp only [List.getElem?_toArray, List.getElem?_cons_succ, List.getElem?_cons_zero]; rfl) (by kernel_rfl) (by kernel_rfl) (by kernel_rfl) (by exact fun _ _ _ h => h) (Or.inl ⟨by rfl, ?_⟩) (by assumption) ?_
      rotate_left
      · (intro w hSw; (try clear hHeld); (try dsimp only at hSw); (try go_split_ands); go_simp)
        try with_reducible rfl
      try simp only [Act.put, List.setIfInBounds_toArray, List.set_cons_zero, List.set_cons_succ]
      refine wpAnyH_take (i := 7) (v := ?_) (by simp only [List.getElem?_toArray, List.getElem?_cons_succ, List.getElem?_cons_zero]; rfl) (by kernel_rfl) (by kernel_rfl) (by kernel_rfl) (by exact fun _ _ _ h => h) (Or.inl ⟨by rfl, ?_⟩) (by assumption) ?_
      rotate_left
      · (intro w hSw; (try clear hHeld); (try dsimp only at hSw); (try go_split_ands); go_simp)
        try with_reducible rfl
      try simp only [Act.put, List.setIfInBounds_toArray, List.set_cons_zero, List.set_cons_succ]
      refine wpAnyH_take (i := 8) (v := ?_) (by simp only [List.getElem?_toArray, List.getElem?_cons_succ, List.getElem?_cons_zero]; rfl) (by kernel_rfl) (by kernel_rfl) (by kernel_rfl) (by exact fun _ _ _ h => h) (Or.inl ⟨by rfl, ?_⟩) (by assumption) ?_
      rotate_left
      · (intro w hSw; (try clear hHeld); (try dsimp only at hSw); (try go_split_ands); go_simp)
        try with_reducible rfl
      try simp only [Act.put, List.setIfInBounds_toArray, List.set_cons_zero, List.set_cons_succ]
      refine wpAnyH_take (i := 10) (v := ?_) (by simp only [List.getElem?_toArray, List.getElem?_cons_succ, List.getElem?_cons_zero]; rfl) (by kernel_rfl) (by kernel_rfl) (by kernel_rfl) (by exact fun _ _ _ h => h) (Or.inl ⟨by rfl, ?_⟩) (by assumption) ?_
      rotate_left
      · (intro w hSw; (try clear hHeld); (try dsimp only at hSw); (try go_split_ands); go_simp)
        try with_reducible rfl
      try simp only [Act.put, List.setIfInBounds_toArray, List.set_cons_zero, List.set_cons_succ]
      refine wpAnyH_take (i := 11) (v := ?_) (by simp only [List.getElem?_toArray, List.getElem?_cons_succ, List.getElem?_cons_zero]; rfl) (by kernel_rfl) (by kernel_rfl) (by kernel_rfl) (by exact fun _ _ _ h => h) (Or.inl ⟨by rfl, ?_⟩) (by assumption) ?_
      rotate_left
      · (intro w hSw; (try clear hHeld); (try dsimp only at hSw); (try go_split_ands); go_simp)
        try with_reducible rfl
      try simp only [Act.put, List.setIfInBounds_toArray, List.set_cons_zero, List.set_cons_succ]
      refine wpAnyH_take (i := 12) (v := ?_) (by simp only [List.getElem?_toArray, List.getElem?_cons_succ, List.getElem?_cons_zero]; rfl) (by kernel_rfl) (by kernel_rfl) (by kernel_rfl) (by exact fun _ _ _ h => h) (Or.inl ⟨by rfl, ?_⟩) (by assumption) ?_
      rotate_left
      · (intro w hSw; (try clear hHeld); (try dsimp only at hSw); (try go_split_ands); go_simp)
        try with_reducible rfl
      try simp only [Act.put, List.setIfInBounds_toArray, List.set_cons_zero, List.set_cons_succ]
      refine wpAnyH_take (i := 13) (v := ?_) (by simp only [List.getElem?_toArray, List.getElem?_cons_succ, List.getElem?_cons_zero]; rfl) (by kernel_rfl) (by kernel_rfl) (by kernel_rfl) (by exact fun _ _ _ h => h) (Or.inl ⟨by rfl, ?_⟩) (by assumption) ?_
      rotate_left
      · (intro w hSw; (try clear hHeld); (try dsimp only at hSw); (try go_split_ands); go_simp)
        try with_reducible rfl
      try simp only [Act.put, List.setIfInBounds_toArray, List.set_cons_zero, List.set_cons_succ]
      refine wpAnyH_take (i := 14) (v := ?_) (by simp only [List.getElem?_toArray, List.getElem?_cons_succ, List.getElem?_cons_zero]; rfl) (by kernel_rfl) (by kernel_rfl) (by kernel_rfl) (by exact fun _ _ _ h => h) (Or.inl ⟨by rfl, ?_⟩) (by assumption) ?_
      rotate_left
      · (intro w hSw; (try clear hHeld); (try dsimp only at hSw); (try go_split_ands); go_simp)
        try with_reducible rfl
      try simp only [Act.put, List.setIfInBounds_toArray, List.set_cons_zero, List.set_cons_succ]
      refine wpAnyH_take (i := 26) (v := ?_) (by simp only [List.getElem?_toArray, List.getElem?_cons_succ, List.getElem?_cons_zero]; rfl) (by kernel_rfl) (by kernel_rfl) (by kernel_rfl) (by exact fun _ _ _ h => h) (Or.inl ⟨by rfl, ?_⟩) (by assumption) ?_
      rotate_left
      · (intro w hSw; (try clear hHeld); (try dsimp only at hSw); (try go_split_ands); go_simp)
        try with_reducible rfl
      try simp only [Act.put, List.setIfInBounds_toArray, List.set_cons_zero, List.set_cons_succ]
      refine wpAnyH_take (i := 27) (v := ?_) (by simp only [List.getElem?_toArray, List.getElem?_cons_succ, List.getElem?_cons_zero]; rfl) (by kernel_rfl) (by kernel_rfl) (by kernel_rfl) (by exact fun _ _ _ h => h) (Or.inl ⟨by rfl, ?_⟩) (by assumption) ?_
      rotate_left
      · (intro w hSw; (try clear hHeld); (try dsimp only at hSw); (try go_split_ands); go_simp)
        try with_reducible rfl
      try simp only [Act.put, List.setIfInBounds_toArray, List.set_cons_zero, List.set_cons_succ]
      refine wpAnyH_take (i := 28) (v := ?_) (by simp only [List.getElem?_toArray, List.getElem?_cons_succ, List.getElem?_cons_zero]; rfl) (by kernel_rfl) (by kernel_rfl) (by kernel_rfl) (by exact fun _ _ _ h => h) (Or.inl ⟨by rfl, ?_⟩) (by assumption) ?_
      rotate_left
      · (intro w hSw; (try clear hHeld); (try dsimp only at hSw); (try go_split_ands); go_simp)
        try with_reducible rfl
      try simp only [Act.put, List.setIfInBounds_toArray, List.set_cons_zero, List.set_cons_succ]
      refine wpAnyH_take (i := 29) (v := ?_) (by simp only [List.getElem?_toArray, List.getElem?_cons_succ, List.getElem?_cons_zero]; rfl) (by kernel_rfl) (by kernel_rfl) (by kernel_rfl) (by exact fun _ _ _ h => h) (Or.inl ⟨by rfl, ?_⟩) (by assumption) ?_
      rotate_left
      · (intro w hSw; (try clear hHeld); (try dsimp only at hSw); (try go_split_ands); go_simp)
        try with_reducible rfl
      try simp only [Act.put, List.setIfInBounds_toArray, List.set_cons_zero, List.set_cons_succ]
      refine wpAnyH_ready (rs := [9]) (by kernel_rfl) (by simp) ?_
      refine AllReadyH.cons (by simp only [List.getElem?_toArray, List.getElem?_cons_succ, List.getElem?_cons_zero]; rfl) (fun K hK => ?_) AllReadyH.nil
      go_simp
      refine (HC.out w1.drew _ ⟨rfl, rfl, rfl, Nat.le_refl _, fun _ _ => rfl⟩).mono ?_
      rintro e w3 ⟨A', c', rfl, ho, hb⟩
      have hbb : Below w1.heap.size w1 w3 := ⟨hb.os, hb.tape, hb.output, hb.size, fun k hk => hb.block k hk⟩
      have HW3 := Lib.hid (show w3.ownsRow w1.heap.size THp 3 (.slice A' q c') q (hapsC ((l.drop at').take q)) ∧ True ∧ Below w1.heap.size w1 w3 from ⟨ho, trivial, hbb⟩)
      clear ho hb
      refine hK.out _ _ ⟨(hbb.cell (World.block_lt_of_cell? w1 _ h2)).trans h2, (hbb.cell (World.block_lt_of_cell? w1 _ h4)).trans h4, (hbb.cell (World.block_lt_of_cell? w1 _ h5)).trans h5⟩ (fun hHeld => ?_)
      clear hK K
      try simp only [Act.put, List.setIfInBounds_toArray, List.set_cons_zero, List.set_cons_succ]
      refine wpAnyH_take (i := 15) (v := ?_) (by simp only [List.getElem?_toArray, List.getElem?_cons_succ, List.getElem?_cons_zero]; rfl) (by kernel_rfl) (by kernel_rfl) (by kernel_rfl) (by exact fun _ _ _ h => h) (Or.inl ⟨by rfl, ?_⟩) (by assumption) ?_
      rotate_left
      · (intro w hSw; (try clear hHeld); (try dsimp only at hSw); (try go_split_ands); go_simp)
        try with_reducible rfl
      try simp only [Act.put, List.setIfInBounds_toArray, List.set_cons_zero, List.set_cons_succ]
      refine wpAnyH_take (i := 16) (v := undef) (by simp only [List.getElem?_toArray, List.getElem?_cons_succ, List.getElem?_cons_zero]; rfl) (by kernel_rfl) (by kernel_rfl) (by kernel_rfl) (by exact fun _ _ _ h => h) (Or.inr ⟨by rfl, rfl⟩) (by assumption) ?_
      try simp only [Act.put, List.setIfInBounds_toArray, List.set_cons_zero, List.set_cons_succ]
      refine wpAnyH_take (i := 17) (v := undef) (by simp only [List.getElem?_toArray, List.getElem?_cons_succ, List.getElem?_cons_zero]; rfl) (by kernel_rfl) (by kernel_rfl) (by kernel_rfl) (by exact fun _ _ _ h => h) (Or.inr ⟨by rfl, rfl⟩) (by assumption) ?_
      try simp only [Act.put, List.setIfInBounds_toArray, List.set_cons_zero, List.set_cons_succ]
      refine wpAnyH_take (i := 18) (v := undef) (by simp only [List.getElem?_toArray, List.getElem?_cons_succ, List.getElem?_cons_zero]; rfl) (by kernel_rfl) (by kernel_rfl) (by kernel_rfl) (by exact fun _ _ _ h => h) (Or.inr ⟨by rfl, rfl⟩) (by assumption) ?_
      try simp only [Act.put, List.setIfInBounds_toArray, List.set_cons_zero, List.set_cons_succ]
      refine wpAnyH_take (i := 19) (v := undef) (by simp only [List.getElem?_toArray, List.getElem?_cons_succ, List.getElem?_cons_zero]; rfl) (by kernel_rfl) (by kernel_rfl) (by kernel_rfl) (by exact fun _ _ _ h => h) (Or.inr ⟨by rfl, rfl⟩) (by assumption) ?_
      try simp only [Act.put, List.setIfInBounds_toArray, List.set_cons_zero, List.set_cons_succ]
      refine wpAnyH_take (i := 20) (v := undef) (by simp only [List.getElem?_toArray, List.getElem?_cons_succ, List.getElem?_cons_zero]; rfl) (by kernel_rfl) (by kernel_rfl) (by kernel_rfl) (by exact fun _ _ _ h => h) (Or.inr ⟨by rfl, rfl⟩) (by assumption) ?_
      try simp only [Act.put, List.setIfInBounds_toArray, List.set_cons_zero, List.set_cons_succ]
      refine wpAnyH_take (i := 21) (v := undef) (by simp only [List.getElem?_toArray, List.getElem?_cons_succ, List.getElem?_cons_zero]; rfl) (by kernel_rfl) (by kernel_rfl) (by kernel_rfl) (by exact fun _ _ _ h => h) (Or.inr ⟨by rfl, rfl⟩) (by assumption) ?_
      try simp only [Act.put, List.setIfInBounds_toArray, List.set_cons_zero, List.set_cons_succ]
      refine wpAnyH_take (i := 22) (v := undef) (by simp only [List.getElem?_toArray, List.getElem?_cons_succ, List.getElem?_cons_zero]; rfl) (by kernel_rfl) (by kernel_rfl) (by kernel_rfl) (by exact fun _ _ _ h => h) (Or.inr ⟨by rfl, rfl⟩) (by assumption) ?_
      try simp only [Act.put, List.setIfInBounds_toArray, List.set_cons_zero, List.set_cons_succ]
      refine wpAnyH_take (i := 23) (v := undef) (by simp only [List.getElem?_toArray, List.getElem?_cons_succ, List.getElem?_cons_zero]; rfl) (by kernel_rfl) (by kernel_rfl) (by kernel_rfl) (by exact fun _ _ _ h => h) (Or.inr ⟨by rfl, rfl⟩) (by assumption) ?_
      try simp only [Act.put, List.setIfInBounds_toArray, List.set_cons_zero, List.set_cons_succ]
      refine wpAnyH_take (i := 24) (v := undef) (by simp only [List.getElem?_toArray, List.getElem?_cons_succ, List.getElem?_cons_zero]; rfl) (by kernel_rfl) (by kernel_rfl) (by kernel_rfl) (by exact fun _ _ _ h => h) (Or.inr ⟨by rfl, rfl⟩) (by assumption) ?_
      try simp only [Act.put, List.setIfInBounds_toArray, List.set_cons_zero, List.set_cons_succ]
      refine wpAnyH_take (i := 25) (v := ?_) (by simp only [List.getElem?_toArray, List.getElem?_cons_succ, List.getElem?_cons_zero]; rfl) (by kernel_rfl) (by kernel_rfl) (by kernel_rfl) (by exact fun _ _ _ h => h) (Or.inl ⟨by rfl, ?_⟩) (by assumption) ?_
      rotate_left
      · (intro w hSw; (try clear hHeld); (try dsimp only at hSw); (try go_split_ands); go_simp)
        try with_reducible rfl
      try simp only [Act.put, List.setIfInBounds_toArray, List.set_cons_zero, List.set_cons_succ]
      refine wpAnyH_take (i := 30) (v := ?_) (by simp only [List.getElem?_toArray, List.getElem?_cons_succ, List.getElem?_cons_zero]; rfl) (by kernel_rfl) (by kernel_rfl) (by kernel_rfl) (by exact fun _ _ _ h => h) (Or.inl ⟨by rfl, ?_⟩) (by assumption) ?_
      rotate_left
      · (intro w hSw; (try clear hHeld); (try dsimp only at hSw); (try go_split_ands); go_simp)
        try with_reducible rfl
      try simp only [Act.put, List.setIfInBounds_toArray, List.set_cons_zero, List.set_cons_succ]
      refine wpAnyH_take (i := 31) (v := ?_) (by simp only [List.getElem?_toArray, List.getElem?_cons_succ, List.getElem?_cons_zero]; rfl) (by kernel_rfl) (by kernel_rfl) (by kernel_rfl) (by exact fun _ _ _ h => h) (Or.inl ⟨by rfl, ?_⟩) (by assumption) ?_
      rotate_left
      · (intro w hSw; (try clear hHeld); (try dsimp only at hSw); (try go_split_ands); go_simp)
        try with_reducible rfl
      try simp only [Act.put, List.setIfInBounds_toArray, List.set_cons_zero, List.set_cons_succ]
      refine wpAnyH_take (i := 32) (v := ?_) (by simp only [List.getElem?_toArray, List.getElem?_cons_succ, List.getElem?_cons_zero]; rfl) (by kernel_rfl) (by kernel_rfl) (by kernel_rfl) (by exact fun _ _ _ h => h) (Or.inl ⟨by rfl, ?_⟩) (by assumption) ?_
      rotate_left
      · (intro w hSw; (try clear hHeld); (try dsimp only at hSw); (try go_split_ands); go_simp)
        try with_reducible rfl
      try simp only [Act.put, List.setIfInBounds_toArray, List.set_cons_zero, List.set_cons_succ]
      refine wpAnyH_done (by kernel_rfl) ?_ _
      refine NoPanic.normal ?_
      have hb2 := (HW3.out.2.2.block b (lt_of_block H1.out.1)).trans H1.out.1
      clear h2 h4 h5
      go_wp2_with fail
      refine leaves_cons (f := 37) (args := #[.pointer (some ⟨b, 0, none⟩)]) (by simp) (by simp [go_sem]) ?_
      refine (unlock_deferred muLib ⟨b, 0, none⟩ .returning _ (by rw [cell_of_row w3 b 0 _ _ _ hb2]; rfl) (frozen_of_row w3 b 0 _ _ hb2)).mono ?_
      rintro e u' w'' ⟨rfl, rfl, rfl⟩
      refine ⟨_, results_tmp3 rfl _ _ _, ?_⟩
      exact HFIN.out w3 A' c' HW3.out.1 HW3.out.2.2 true (by simp)
end Go.Proofs.Ytlddeagolhdieaa
