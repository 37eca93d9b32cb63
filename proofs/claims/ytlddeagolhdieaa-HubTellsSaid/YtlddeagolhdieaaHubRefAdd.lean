/- The document's Add. -/
import Derived.Test.YtlddeagolhdieaaHubAppend
namespace Go.Proofs.Ytlddeagolhdieaa
open Go.RowKit Go.MuLone Go.Conc

set_option maxRecDepth 100000
set_option maxHeartbeats 4000000
/-- the document's lists, where they lie -/
structure DI (w : World) (D : Nat → DT) : Prop where
  nil : ∀ j, j < 8 → (D j).A = none → (D j).l = [] ∧ (D j).c = 0
  flat : ∀ j, j < 8 → ∀ ad, (D j).A = some ad → ad.spot = none
  room : ∀ j, j < 8 → (D j).l.length ≤ (D j).c
  lim : ∀ j, j < 8 → (D j).l.length ≤ 4096
  lies : ∀ j, j < 8 → Lies w (D j).A (D j).l
  ty : ∀ j, j < 8 → ∀ ad, (D j).A = some ad → ∃ cur fr, w.heap[ad.block]? = some (.cells cur THp fr)
theorem DI.on {w w' : World} {D : Nat → DT} (h : DI w D) (hb : Below w.heap.size w w') : DI w' D := ⟨h.nil, h.flat, h.room, h.lim, fun j hj => (h.lies j hj).on hb, fun j hj ad e => by
  obtain ⟨cur, fr, hc⟩ := h.ty j hj ad e
  exact ⟨cur, fr, (hb.block _ (lt_of_block hc)).trans hc⟩⟩
theorem DI.hin {w : World} {D : Nat → DT} (h : DI w D) {j : Nat} (hj : j < 8) : HIn w (D j).A (D j).l := by
  refine ⟨fun e => (h.nil j hj e).1, fun ad e => ⟨fun hn => ?_, fun k u hu => ?_⟩⟩
  · obtain ⟨g, o, e2, hg, _⟩ := h.lies j hj hn
    rw [e] at e2; cases e2; exact hg
  · have hn : (D j).l ≠ [] := fun e0 => by rw [e0] at hu; cases hu
    obtain ⟨g, o, e2, _, hc⟩ := h.lies j hj hn
    rw [e] at e2; cases e2
    rw [Addr.add_lit]; exact hc k u hu
def addE2 (D : Nat → DT) (talk : Int) (m : List Hap) : Int := if 0 ≤ talk ∧ talk < 8 then addE (D talk.toNat).l (D talk.toNat).cl m else 2
/-- the document's hub behind an Add -/
def RAddIs (D : Nat → DT) (talk : Int) (m : List Hap) (w : World) (e : Ending) (w' : World) : Prop :=
  ∃ D', e = .returned (.tuple #[.agg (docC D'), .int .i64 (addE2 D talk m)]) ∧ DI w' D' ∧ Below w.heap.size w w' ∧
    (∀ j : Nat, j < 8 → (D' j).cl = (D j).cl ∧ (D' j).l = (if (j : Int) = talk then addL (D j).l (D j).cl m else (D j).l)) ∧
    (∀ j, j < 8 → (D' j).A = (D j).A ∨ ∀ ad, (D' j).A = some ad → w.heap.size ≤ ad.block)
theorem radd_same {D : Nat → DT} {talk : Int} {m : List Hap} {w W : World} {r : Int} (hr : r = addE2 D talk m) (hl : ∀ j : Nat, j < 8 → (j : Int) = talk → addL (D j).l (D j).cl m = (D j).l) (hD : DI w D) (hb : Below w.heap.size w W) :
    RAddIs D talk m w (.returned (.tuple #[.agg (docC D), .int .i64 r])) W :=
  ⟨D, by rw [hr], hD.on hb, hb, fun j hj => ⟨rfl, by split; · rename_i h; exact (hl j hj h).symm
                                                     · rfl⟩, fun _ _ => .inl rfl⟩
theorem addL_cl {D : Nat → DT} {t : Nat} {m : List Hap} (h : (D t).cl = true) : ∀ j : Nat, j < 8 → (j : Int) = t → addL (D j).l (D j).cl m = (D j).l := fun j _ e => by
  obtain rfl : j = t := by omega
  rw [h]; rfl
theorem addL_full {D : Nat → DT} {t : Nat} {m : List Hap} (h : (D t).cl = false) (hl : 4096 < (D t).l.length + m.length) : ∀ j : Nat, j < 8 → (j : Int) = t → addL (D j).l (D j).cl m = (D j).l := fun j _ e => by
  obtain rfl : j = t := by omega
  unfold addL; rw [h, if_neg (by decide), if_pos hl]
theorem below_grown' {w w' : World} {r : Option Nat} {B : Nat} (g : w.grownBy w' r) (hB : B ≤ w.heap.size) (hr : ∀ b, r = some b → B ≤ b) : Below B w w' :=
  ⟨g.os, g.tape, g.output, g.size, fun k hk => g.block k (by omega) (fun e => by have := hr k (by rw [← e]); omega)⟩
theorem Two.more {w W W' : World} {X Y : Array Value} (h : Two w W X Y) (hb : Below W.heap.size W W') : Two w W' X Y :=
  ⟨(hb.block _ (lt_of_block h.x)).trans h.x, (hb.block _ (lt_of_block h.y)).trans h.y, h.up.trans (hb.mono h.up.size)⟩
theorem radd_new {D D' : Nat → DT} {t B c' : Nat} {A' : Option Addr} {L' m : List Hap} {w w4 W : World} (ht : t < 8) (hcl : (D t).cl = false) (hl : ¬ 4096 < (D t).l.length + m.length) (hD : DI w D) (hL : (D t).l ++ m = L') (hLl : L'.length ≤ 4096)
    (hD' : updD D t { D t with A := A', l := L', c := c' } = D') (hE : addE2 D t m = addE (D t).l (D t).cl m) (hown : w4.ownsRow B THp 3 (.slice A' L'.length c') L'.length (hapsC L')) (hB : w.heap.size + 2 ≤ B) (hup : Below w.heap.size w W)
    (hk : ∀ g, w.heap.size + 2 ≤ g → g < w4.heap.size → W.heap[g]? = w4.heap[g]?) : RAddIs D t m w (.returned (.tuple #[.agg (docC D'), .int .i64 0])) W := by
  have same : D' t = { D t with A := A', l := L', c := c' } := by rw [← hD']; exact if_pos rfl
  have oth : ∀ j, j ≠ t → D' j = D j := fun j hj => by rw [← hD']; exact if_neg hj
  have hadd : addL (D t).l (D t).cl m = L' := by unfold addL; rw [hcl, if_neg (by decide), if_neg hl, hL]
  have hz : addE2 D t m = 0 := by rw [hE]; unfold addE; rw [hcl, if_neg (by decide), if_neg hl]
  have hon := hD.on hup
  have hrow : (A' = none → L' = [] ∧ c' = 0) ∧ (∀ ad, A' = some ad → ad.spot = none ∧ w.heap.size ≤ ad.block) ∧ L'.length ≤ c' ∧ Lies W A' L' ∧ (∀ ad, A' = some ad → ∃ cur fr, W.heap[ad.block]? = some (.cells cur THp fr)) := by
    rcases hown.2 with ⟨e, hn⟩ | ⟨g, cap, cur, e, hBg, hg, hn, hrest⟩
    · injection e with e1 e2 e3
      subst e1 e3
      have : L' = [] := List.eq_nil_of_length_eq_zero e2
      exact ⟨fun _ => ⟨this, rfl⟩, fun ad h => (by cases h), by omega, fun h => absurd this h, fun ad h => (by cases h)⟩
    · injection e with e1 e2 e3
      subst e1 e3
      have hgl := lt_of_block hg
      have hc := (own_cells hown).2
      have hb := hk g (by omega) hgl
      refine ⟨fun h => (by cases h), fun ad h => (by cases h; exact ⟨rfl, by show w.heap.size ≤ g; omega⟩), hn, fun _ => ⟨g, 0, rfl, ?_, fun k u hu => ?_⟩, fun ad h => (by cases h; exact ⟨cur, _, hb.trans hg⟩)⟩
      · rw [hg] at hb; exact lt_of_block hb
      · rw [Nat.zero_add]
        exact (World.cell?_of_block (a := ⟨g, k, none⟩) hb).trans (hc k u hu)
  obtain ⟨r1, r2, r3, r4, r5⟩ := hrow
  refine ⟨D', by rw [hz], ⟨fun j hj => ?_, fun j hj => ?_, fun j hj => ?_, fun j hj => ?_, fun j hj => ?_, fun j hj => ?_⟩, hup, fun j hj => ?_, fun j hj => ?_⟩
  all_goals
    by_cases e : j = t
    · subst e
      rw [same]
      first
        | exact r1
        | exact fun ad h => (r2 ad h).1
        | exact r3
        | exact hLl
        | exact r4
        | exact r5
        | exact ⟨rfl, by rw [if_pos rfl, hadd]⟩
        | exact .inr (fun ad h => (r2 ad h).2)
    · rw [oth j e]
      first
        | exact hon.nil j hj
        | exact hon.flat j hj
        | exact hon.room j hj
        | exact hon.lim j hj
        | exact hon.lies j hj
        | exact hon.ty j hj
        | exact ⟨rfl, by rw [if_neg (by omega)]⟩
        | exact .inl rfl
theorem radd_any (D : Nat → DT) (talk : Int) (A : Option Addr) (m : List Hap) (cap : Nat) (w : World) (hD : DI w D) (hA : HIn w A m) (hm : m.length ≤ 4398046510976) :
    Calls Try.prog 12 #[.agg (docC D), .int .i64 talk, .slice A m.length cap] w (RAddIs D talk m w) := by
  have HS := Lib.hid (two_start w (docC D) docZ)
  have HD := Lib.hid (And.intro hD hA)
  clear hD hA
  by_cases ht : 0 ≤ talk ∧ talk < 8
  · obtain ⟨t, rfl⟩ : ∃ t : Nat, talk = t := ⟨talk.toNat, by omega⟩
    have ht8 : t < 8 := by omega
    have h0 : (0 : Int) ≤ t := by omega
    have h1 : (t : Int) < 8 := by omega
    have k0 := cell_of_row _ _ (t * 2) _ _ _ HS.out.x
    have k1 := cell_of_row _ _ (t * 2 + 1) _ _ _ HS.out.x
    rw [(docC_at D ht8).1] at k0
    rw [(docC_at D ht8).2] at k1
    have HA2 : Hid (addE2 D t m = addE (D t).l (D t).cl m) := Lib.hid (by unfold addE2; rw [if_pos ⟨h0, h1⟩]; rfl)
    have hlim := HD.out.1.lim t ht8
    cases hcl : (D t).cl with
    | true =>
      have HE : Hid (9 = addE2 D t m ∧ ∀ j : Nat, j < 8 → (j : Int) = t → addL (D j).l (D j).cl m = (D j).l) := Lib.hid ⟨by rw [HA2.out, hcl]; rfl, addL_cl hcl⟩
      rw [hcl] at k1
      clear hcl
      go_enter Try.func12, Try.ntmps12
      go_wp2_with fail
      change Calls _ _ _ ((w.alloc (.cells (docC D) TRh)).alloc (.cells docZ TRh)) _
      generalize (w.alloc (.cells (docC D) TRh)).alloc (.cells docZ TRh) = W at *
      refine (in_yes t W h0 h1).mono ?_
      rintro e w2 ⟨rfl, rfl⟩
      go_upto_region 5 with (fail)
      have HS2 := Lib.hid (HS.out.more (below_new w2 (.cells #[.slice (D t).A (D t).l.length (D t).c, .bool true] TTk)))
      go_wp2_with (first | (refine wpList_load_row rfl TRh (.tmp 3) rfl w.heap.size rfl TRh _ (0, 0) _ HS2.out.x Try.underlying32 rfl (info_doc D) ?_) | (refine wpList_store_row rfl TRh (.tmp 6) (.tmp 20) rfl (w.heap.size + 1) (docC D) rfl rfl TRh docZ HS2.out.y (info_doc D) (by rw [docC_size]; rfl) (docC_one D) ?_))
      have HX := Lib.hid (HS2.out.row (Z := docC D))
      exact bodyPost_ret (v := .tuple #[.agg (docC D), .int .i64 9]) (results_rt rfl _ _ (w.heap.size + 1) _ _ rfl rfl (load_doc _ _ D HX.out.y)) rfl (radd_same HE.out.1 HE.out.2 HD.out.1 HX.out.up)
    | false =>
      rw [hcl] at k1
      by_cases hl : 4096 < (D t).l.length + m.length
      · have HE : Hid (8 = addE2 D t m ∧ ∀ j : Nat, j < 8 → (j : Int) = t → addL (D j).l (D j).cl m = (D j).l) := Lib.hid ⟨by rw [HA2.out, hcl]; unfold addE; rw [if_neg (by decide), if_pos hl], addL_full hcl hl⟩
        have d1 : decide (4096 < ((D t).l.length : Int) + m.length) = true := decide_eq_true (by omega)
        clear hcl hl
        go_enter Try.func12, Try.ntmps12
        go_wp2_with fail
        change Calls _ _ _ ((w.alloc (.cells (docC D) TRh)).alloc (.cells docZ TRh)) _
        generalize (w.alloc (.cells (docC D) TRh)).alloc (.cells docZ TRh) = W at *
        refine (in_yes t W h0 h1).mono ?_
        rintro e w2 ⟨rfl, rfl⟩
        go_upto_region 7 with (fail)
        have HS2 := Lib.hid (HS.out.more (below_new w2 (.cells #[.slice (D t).A (D t).l.length (D t).c, .bool false] TTk)))
        go_wp2_with (first | (refine wpList_load_row rfl TRh (.tmp 3) rfl w.heap.size rfl TRh _ (0, 0) _ HS2.out.x Try.underlying32 rfl (info_doc D) ?_) | (refine wpList_store_row rfl TRh (.tmp 6) (.tmp 28) rfl (w.heap.size + 1) (docC D) rfl rfl TRh docZ HS2.out.y (info_doc D) (by rw [docC_size]; rfl) (docC_one D) ?_))
        have HX := Lib.hid (HS2.out.row (Z := docC D))
        exact bodyPost_ret (v := .tuple #[.agg (docC D), .int .i64 8]) (results_rt rfl _ _ (w.heap.size + 1) _ _ rfl rfl (load_doc _ _ D HX.out.y)) rfl (radd_same HE.out.1 HE.out.2 HD.out.1 HX.out.up)
      · have d1 : decide (4096 < ((D t).l.length : Int) + m.length) = false := decide_eq_false (by omega)
        go_enter Try.func12, Try.ntmps12
        go_wp2_with fail
        change Calls _ _ _ ((w.alloc (.cells (docC D) TRh)).alloc (.cells docZ TRh)) _
        generalize (w.alloc (.cells (docC D) TRh)).alloc (.cells docZ TRh) = W at *
        refine (in_yes t W h0 h1).mono ?_
        rintro e w2 ⟨rfl, rfl⟩
        go_upto_region 9 with (fail)
        have HS2 := Lib.hid (HS.out.more (below_new w2 (.cells #[.slice (D t).A (D t).l.length (D t).c, .bool false] TTk)))
        clear k0 k1 d1 HS
        change Code.wp _ _ _ _ (w2.alloc (.cells #[.slice (D t).A (D t).l.length (D t).c, .bool false] TTk))
        have hk8 := heap_alloc_new w2 (.cells #[.slice (D t).A (D t).l.length (D t).c, .bool false] TTk)
        generalize w2.alloc (.cells #[.slice (D t).A (D t).l.length (D t).c, .bool false] TTk) = W1 at *
        have k8 : W1.cell? ⟨w2.heap.size, 0, none⟩ = some (.slice (D t).A (D t).l.length (D t).c) := by rw [cell_of_row _ _ 0 _ _ _ hk8]; rfl
        clear hk8
        have H1 := Lib.hid (And.intro ((HD.out.1.on HS2.out.up).hin ht8) (HD.out.2.on HS2.out.up))
        have hnil : W1.ownsRow W1.heap.size THp 3 (.slice none 0 0) 0 [] := ⟨by simp, .inl ⟨rfl, rfl⟩⟩
        have HN := Lib.hid hnil
        clear hnil
        go_upto_region 10 with (at_builtin; refine wpList_append_any rfl _ _ rfl W1.heap.size (Nat.le_refl _) (.slice none 0 0) 0 [] rfl HN.out (D t).A (D t).l (D t).c rfl H1.out.1 (by omega) ?_; intro v1 w3 o1 g1 hv1; have HV1 := Lib.hid (And.intro o1 (below_grown' g1 (Nat.le_refl _) (fun b e => by cases e))); clear o1 g1 hv1 k8)
        have H3 := Lib.hid (And.intro (HS2.out.more HV1.out.2) (H1.out.2.on HV1.out.2))
        go_upto_region 11 with (at_builtin; refine wpList_append_any rfl _ _ rfl W1.heap.size HV1.out.2.size v1 (0 + (D t).l.length) ([] ++ hapsC (D t).l) rfl HV1.out.1 A m cap rfl H3.out.2 (by omega) ?_; intro v2 w4 o2 g2 hv2; have HV2 := Lib.hid (And.intro o2 (below_grown' g2 HV1.out.2.size (fun b e => (own_lt HV1.out.1 e).2))); clear o2 g2 hv2)
        obtain ⟨A', c', rfl⟩ := own_slice HV2.out.1
        obtain ⟨L', hL'⟩ : ∃ L', (D t).l ++ m = L' := ⟨_, rfl⟩
        have hlen : 0 + (D t).l.length + m.length = L'.length := by rw [← hL', List.length_append]; omega
        have hown := HV2.out.1
        rw [List.nil_append, ← hapsC_append, hL', hlen] at hown
        have HOW := Lib.hid hown
        have HS4 := Lib.hid (HS2.out.more (HV1.out.2.trans HV2.out.2))
        have f4 : w4.frozen? ⟨w.heap.size, t * 2, none⟩ = false := frozen_of_row _ _ _ _ _ HS4.out.x
        have k4 := cell_of_row _ _ (t * 2) _ _ _ HS4.out.x
        rw [(docC_at D ht8).1] at k4
        have hB2 : w.heap.size + 2 ≤ W1.heap.size := lt_of_block HS2.out.y
        have HLL := Lib.hid (And.intro hL' (show L'.length ≤ 4096 by omega))
        rw [hlen]
        clear hown hL' hlen
        have HS5 := Lib.hid (HS4.out.cell (t * 2) (.slice A' L'.length c'))
        rw [docC_l D ht8 A' L' c'] at HS5
        obtain ⟨D', hD'⟩ : ∃ D', updD D t { D t with A := A', l := L', c := c' } = D' := ⟨_, rfl⟩
        rw [hD'] at HS5
        have HDD := Lib.hid hD'
        clear hD'
        go_wp2_with (first | (refine wpList_load_row rfl TRh (.tmp 3) rfl w.heap.size rfl TRh _ (0, 0) _ HS5.out.x Try.underlying32 rfl (info_doc D') ?_) | (refine wpList_store_row rfl TRh (.tmp 6) (.tmp 41) rfl (w.heap.size + 1) (docC D') rfl rfl TRh docZ HS5.out.y (info_doc D') (by rw [docC_size]; rfl) (docC_one D') ?_))
        have HX := Lib.hid (HS5.out.row (Z := docC D'))
        refine bodyPost_ret (v := .tuple #[.agg (docC D'), .int .i64 0]) (results_rt rfl _ _ (w.heap.size + 1) _ _ rfl rfl (load_doc _ _ D' HX.out.y)) rfl ?_
        exact radd_new ht8 hcl hl HD.out.1 HLL.out.1 HLL.out.2 HDD.out HA2.out (HOW.out) hB2 HX.out.up (fun g hg hgl => by
          rw [setRow_other _ _ _ _ (by omega)]
          rw [(off_set w4 w.heap.size (t * 2) (.slice A' L'.length c')).block g hgl (by simp only [List.mem_singleton]; omega)])
  · have HE : Hid (2 = addE2 D talk m ∧ ∀ j : Nat, j < 8 → (j : Int) = talk → addL (D j).l (D j).cl m = (D j).l) := Lib.hid ⟨by unfold addE2; rw [if_neg ht], fun j hj h => absurd ⟨by omega, by omega⟩ ht⟩
    have HT := Lib.hid (show talk < 0 ∨ 8 ≤ talk by omega)
    clear ht
    go_enter Try.func12, Try.ntmps12
    go_wp2_with fail
    change Calls _ _ _ ((w.alloc (.cells (docC D) TRh)).alloc (.cells docZ TRh)) _
    generalize (w.alloc (.cells (docC D) TRh)).alloc (.cells docZ TRh) = W at *
    refine (in_no talk W HT.out).mono ?_
    rintro e w2 ⟨rfl, rfl⟩
    go_wp2_with (first | (refine wpList_load_row rfl TRh (.tmp 3) rfl w.heap.size rfl TRh _ (0, 0) _ HS.out.x Try.underlying32 rfl (info_doc D) ?_) | (refine wpList_store_row rfl TRh (.tmp 6) (.tmp 13) rfl (w.heap.size + 1) (docC D) rfl rfl TRh docZ HS.out.y (info_doc D) (by rw [docC_size]; rfl) (docC_one D) ?_))
    have HX := Lib.hid (HS.out.row (Z := docC D))
    exact bodyPost_ret (v := .tuple #[.agg (docC D), .int .i64 2]) (results_rt rfl _ _ (w.heap.size + 1) _ _ rfl rfl (load_doc _ _ D HX.out.y)) rfl (radd_same HE.out.1 HE.out.2 HD.out.1 HX.out.up)
end Go.Proofs.Ytlddeagolhdieaa
