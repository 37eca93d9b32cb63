/- Matcher.step: a byte more. -/
import Derived.Test.YtfhggnbnbopkkaaDoorMatRound
namespace Go.Proofs.YtfhggnbnbopkkaaDoor
open Go.RowKit PM

set_option maxRecDepth 100000
theorem info_trs : (Tryd.prog.info? TTr).map (fun i => (i.zero, i.size, i.bytes)) = some (some (.agg #[.pointer none, .int .i64 0]), 2, 16) := info_tr
def new5 (w : World) (c : UInt8) (Ti M : Int) : World := ((((w.alloc (.cells #[.int .u8 c.toNat] 5)).alloc (.cells #[.int .i64 Ti] TI)).alloc (.cells #[.int .i64 M] TI)).alloc (.cells #[.int .i64 (-1)] TI)).alloc (.cells #[.int .i64 0] TI)
theorem new5_below (w : World) (c : UInt8) (Ti M : Int) : Below w.heap.size w (new5 w c Ti M) := ⟨rfl, rfl, rfl, by unfold new5; simp only [World.size_alloc]; omega, fun k hk => by
  unfold new5
  rw [heap_alloc_old _ _ (by simp only [World.size_alloc]; omega), heap_alloc_old _ _ (by simp only [World.size_alloc]; omega), heap_alloc_old _ _ (by simp only [World.size_alloc]; omega), heap_alloc_old _ _ (by simp only [World.size_alloc]; omega), heap_alloc_old _ _ hk]⟩
theorem new5_box (w : World) (c : UInt8) (Ti M : Int) : Box5 (new5 w c Ti M) w.heap.size c Ti M := by
  have h0 := heap_alloc_new w (.cells #[.int .u8 c.toNat] 5)
  have h1 := heap_alloc_new (w.alloc (.cells #[.int .u8 c.toNat] 5)) (.cells #[.int .i64 Ti] TI)
  have h2 := heap_alloc_new ((w.alloc (.cells #[.int .u8 c.toNat] 5)).alloc (.cells #[.int .i64 Ti] TI)) (.cells #[.int .i64 M] TI)
  have h3 := heap_alloc_new (((w.alloc (.cells #[.int .u8 c.toNat] 5)).alloc (.cells #[.int .i64 Ti] TI)).alloc (.cells #[.int .i64 M] TI)) (.cells #[.int .i64 (-1)] TI)
  have h4 := heap_alloc_new ((((w.alloc (.cells #[.int .u8 c.toNat] 5)).alloc (.cells #[.int .i64 Ti] TI)).alloc (.cells #[.int .i64 M] TI)).alloc (.cells #[.int .i64 (-1)] TI)) (.cells #[.int .i64 0] TI)
  simp only [World.size_alloc] at h1 h2 h3 h4
  unfold new5
  refine ⟨?_, ?_, ?_, ?_, h4⟩
  · rw [heap_alloc_old _ _ (by simp only [World.size_alloc]; omega), heap_alloc_old _ _ (by simp only [World.size_alloc]; omega), heap_alloc_old _ _ (by simp only [World.size_alloc]; omega), heap_alloc_old _ _ (by simp only [World.size_alloc]; omega)]; exact h0
  · rw [heap_alloc_old _ _ (by simp only [World.size_alloc]; omega), heap_alloc_old _ _ (by simp only [World.size_alloc]; omega), heap_alloc_old _ _ (by simp only [World.size_alloc]; omega)]; exact h1
  · rw [heap_alloc_old _ _ (by simp only [World.size_alloc]; omega), heap_alloc_old _ _ (by simp only [World.size_alloc]; omega)]; exact h2
  · rw [heap_alloc_old _ _ (by simp only [World.size_alloc]; omega)]; exact h3
theorem step_net {w wr : World} {x : Mx} {arms : List Arm} {st : Nat → List UInt8 × Bool} {R0 : List Rw} {i : Nat} {a : Arm} (hn : Nets w x arms) (ha : ArmsAt w arms st R0) (hr : Rows w x R0) (ht : TurnsP (Own x R0) w wr) (hi : arms[i]? = some a) : wr.cell? ⟨x.N, i, none⟩ = some (.pointer (some ⟨a.b, 0, none⟩)) := by
  have h1 := (hn.turns ha hr ht).row
  have h2 := h1.cells (g := x.N) rfl i (.pointer (some ⟨a.b, 0, none⟩)) (by rw [List.getElem?_map, hi]; rfl)
  rw [Addr.add_lit, Nat.zero_add] at h2
  exact h2
theorem r7_next {x : Mx} {arms : List Arm} {a : Arm} {R0 R' : List Rw} {cur : List UInt8} {c : UInt8} {neg : Nat → Bool} {M : Int} {i B : Nat} {w W7 : World} (h : R7 x arms a R0 cur c neg M i B w W7 R') (hno : ∀ (j : Nat) a, j < i → arms[j]? = some a → fromOf a.t (cur ++ [c]) = none) (hai : arms[i]? = some a) (hf : fromOf a.t (cur ++ [c]) = none) : StepI x arms R0 cur c neg M w W7 (i + 1) R' := by
  have hb := h.bx
  rw [hf] at hb
  exact ⟨h.rows, h.at', h.tp, h.from', ⟨hb.c, hb.t, hb.m, hb.a, hb.f⟩, fun j b hj hb2 => by
    rcases Nat.lt_or_ge j i with h2 | h2
    · exact hno j b h2 hb2
    · obtain rfl : j = i := by omega
      rw [hai] at hb2; cases hb2; exact hf⟩
theorem r5_own {x : Mx} {arms : List Arm} {R0 R : List Rw} {cur : List UInt8} {c : UInt8} {neg : Nat → Bool} {M : Int} {w W1 : World} {i : Nat} {q : Rw} (h1 : StepI x arms R0 cur c neg M w W1 i R) (hqi : R[i]? = some q) : ∀ j, (j = x.O ∨ q.v.ownBlock = some j) → j < w.heap.size → Own x R0 j := fun j hj hlt => by
  rcases hj with hj | hj
  · exact .inl hj
  · exact .inr (h1.from' j ⟨q, List.mem_of_getElem? hqi, .inl hj⟩ hlt)
/-- what is known behind DeleteFunc, and behind the store -/
def Pass7 (x : Mx) (arms : List Arm) (a : Arm) (R0 : List Rw) (cur : List UInt8) (c : UInt8) (neg : Nat → Bool) (M : Int) (i B g cap : Nat) (w : World) (R : List Rw) (e : Ending) (w6 : World) : Prop :=
  ∃ l', e = .returned (.slice (some ⟨g, 0, none⟩) l'.length cap) ∧ w6.cell? ⟨x.mb, 1, none⟩ = some (.slice (some ⟨x.O, 0, none⟩) arms.length x.cO) ∧ w6.cell? ⟨B, 0, none⟩ = some (.int .i64 i) ∧ (∃ u, w6.cell? ⟨x.O, i, none⟩ = some u) ∧
    (w6.setCell ⟨x.O, i, none⟩ (.slice (some ⟨g, 0, none⟩) l'.length cap)).cell? ⟨x.mb, 1, none⟩ = some (.slice (some ⟨x.O, 0, none⟩) arms.length x.cO) ∧ (w6.setCell ⟨x.O, i, none⟩ (.slice (some ⟨g, 0, none⟩) l'.length cap)).cell? ⟨B, 0, none⟩ = some (.int .i64 i) ∧ w6.frozen? ⟨x.O, i, none⟩ = false ∧
    Hid (R7 x arms a R0 cur c neg M i B w (w6.setCell ⟨x.O, i, none⟩ (.slice (some ⟨g, 0, none⟩) l'.length cap)) (R.set i ⟨.slice (some ⟨g, 0, none⟩) l'.length cap, l'⟩))
theorem pass7 {x : Mx} {arms : List Arm} {R0 R : List Rw} {cur : List UInt8} {c : UInt8} {neg : Nat → Bool} {M : Int} {w W1 W5 : World} {i B r g cap : Nat} {a : Arm} {q : Rw} {bv : Value}
    (h1 : StepI x arms R0 cur c neg M w W1 i R) (hai : arms[i]? = some a) (hqi : R[i]? = some q) (h5 : R5 x a q cur c M i w.heap.size B r g cap R W1 W5)
    (hb : w.heap[x.mb]? = some (.cells (mV x arms.length bv) TMa (0, 0))) (ha : ArmsAt w arms (fun j => (cur, neg j)) R0) (hr : Rows w x R0) (hcut : ∀ j, Cut M cur.length cur.length (neg j)) (hlen : cur.length ≤ 5000000) :
    Calls Tryd.prog 42 #[.slice (some ⟨g, 0, none⟩) (q.l.length + 1) cap, .func (.func 43) #[] (Bx.cap ⟨w.heap.size + 2, w.heap.size + 1, w.heap.size, w.heap.size + 3, B, w.heap.size + 4⟩)] W5 (Pass7 x arms a R0 cur c neg M i B g cap w R) := by
  have hA := h1.at'.at' i a q hai hqi
  have hst : stAt i cur c neg i = (cur, neg i) := by simp [stAt]
  rw [hst] at hA
  refine (arm_pass _ a g cap r q.l cur c (neg i) M i W5 h5.bx h5.net h5.tab h5.own h5.runs hA.trk h5.nd (hcut i) hlen (by omega)).mono ?_
  intro e w6 hp
  obtain ⟨l', rfl, c6, f6, hsz, hma, hb6, ⟨csO, hO6⟩, h7⟩ := round7 h1 hai hqi h5 hp
  have hm5 : W5.heap[x.mb]? = some (.cells (mV x arms.length bv) TMa (0, 0)) := ((h1.tp.also h5.tp (r5_own h1 hqi)).block x.mb (lt_of_block hb) (own_not ha hr hb (by decide))).trans hb
  have hm6 := hma _ _ _ hm5 rfl
  have hne : x.mb ≠ x.O := ty_ne hm6 hO6 (by decide)
  have hneB : B ≠ x.O := ty_ne hb6 hO6 (by decide)
  refine ⟨l', rfl, by rw [cell_of_row _ _ _ _ _ _ hm6]; rfl, by rw [cell_of_row _ _ _ _ _ _ hb6]; rfl, ⟨_, c6⟩, ?_, ?_, f6, Lib.hid h7⟩
  · rw [World.cell?_setCell_far _ _ _ _ (Ne.symm hne), cell_of_row _ _ _ _ _ _ hm6]; rfl
  · rw [World.cell?_setCell_far _ _ _ _ (Ne.symm hneB), cell_of_row _ _ _ _ _ _ hb6]; rfl
theorem step_hit {x : Mx} {arms : List Arm} {a : Arm} {R0 R' : List Rw} {cur : List UInt8} {c : UInt8} {neg : Nat → Bool} {M : Int} {i B p : Nat} {w W7 W8 : World} (h : R7 x arms a R0 cur c neg M i B w W7 R') (hno : ∀ (j : Nat) a, j < i → arms[j]? = some a → fromOf a.t (cur ++ [c]) = none) (hai : arms[i]? = some a) (hf : fromOf a.t (cur ++ [c]) = some p)
    (hb : Below W7.heap.size W7 W8) : StepIs x arms R0 cur c w (.returned (.tuple #[.int .i64 i, .int .i64 p, .bool true])) W8 := by
  refine ⟨R', own_keep h.rows fun g hg => hb.block g (h.rows.lt g hg).2, h.at'.len, h.tp.trans (TurnsP.of_below hb), h.from', fun k hk => Nat.lt_of_lt_of_le (h.at'.lt hk) hb.size, .inl ⟨i, p, hitOf_some.2 ⟨a.t, by rw [List.getElem?_map, hai]; rfl, hf, fun b t' hbi hbt => ?_⟩, rfl⟩⟩
  rw [List.getElem?_map] at hbt
  cases hb' : arms[b]? with
  | none => rw [hb'] at hbt; cases hbt
  | some a' => rw [hb'] at hbt; cases hbt; exact hno b a' hbi hb'
theorem step_miss {x : Mx} {arms : List Arm} {R0 R : List Rw} {cur : List UInt8} {c : UInt8} {neg : Nat → Bool} {M : Int} {w wr : World} (h : StepI x arms R0 cur c neg M w wr arms.length R) : StepIs x arms R0 cur c w (.returned (.tuple #[.int .i64 0, .int .i64 0, .bool false])) wr := by
  refine ⟨R, h.rows, h.at'.len, h.tp, h.from', fun k hk => h.at'.lt hk, .inr ⟨hitOf_none.2 fun t ht => ?_, rfl, ⟨h.at'.len, fun i a q ha hq => ?_, h.at'.apart⟩⟩⟩
  · obtain ⟨a, ha, rfl⟩ := List.mem_map.1 ht
    obtain ⟨j, hj, e⟩ := List.mem_iff_getElem.1 ha
    exact h.none j a hj ((List.getElem?_eq_getElem hj).trans (by rw [e]))
  · have := h.at'.at' i a q ha hq
    have hs : stAt arms.length cur c neg i = (cur ++ [c], false) := by simp only [stAt]; rw [if_pos (List.getElem?_eq_some_iff.1 ha).1]
    rw [hs] at this
    exact this
set_option maxHeartbeats 4000000 in
theorem step_row (x : Mx) (arms : List Arm) (R0 : List Rw) (cur : List UInt8) (c : UInt8) (neg : Nat → Bool) (M : Int) (bv : Value) (w : World) (hb : w.heap[x.mb]? = some (.cells (mV x arms.length bv) TMa (0, 0))) (hn : Nets w x arms) (hr : Rows w x R0) (ha : ArmsAt w arms (fun j => (cur, neg j)) R0)
    (hcut : ∀ j, Cut M cur.length cur.length (neg j)) (hlen : cur.length ≤ 5000000) (hM : 0 ≤ M ∧ M ≤ 10000000) (hk : arms.length ≤ 8) :
    Calls Tryd.prog 29 #[.pointer (some ⟨x.mb, 0, none⟩), .int .u8 c.toNat, .int .i64 cur.length, .int .i64 M] w (StepIs x arms R0 cur c w) := by
  have HM := Lib.hid (And.intro hb (And.intro hn (And.intro hr (And.intro ha hcut))))
  have m0 : w.cell? ⟨x.mb, 0, none⟩ = some (.slice (some ⟨x.N, 0, none⟩) arms.length x.cN) := by rw [cell_of_row _ _ _ _ _ _ hb]; rfl
  clear hb hn hr ha hcut
  have hmb := World.block_lt_of_cell? w _ m0
  go_enter Tryd.func29, Tryd.ntmps29
  go_upto_region 2 with (fail)
  change Code.wp _ _ _ _ (new5 w c cur.length M)
  have HB := Lib.hid (And.intro (new5_below w c cur.length M) (new5_box w c cur.length M))
  generalize new5 w c cur.length M = W0 at *
  have hH : ∃ H, w.heap.size = H := ⟨_, rfl⟩
  obtain ⟨H, hH⟩ := hH
  have HI : Hid (StepI x arms R0 cur c neg M w W0 0 R0) := Lib.hid ⟨own_keep HM.out.2.2.1 fun g hg => HB.out.1.block g (HM.out.2.2.1.lt g hg).2, (HM.out.2.2.2.1.keep fun k hk => HB.out.1.block k (HM.out.2.2.2.1.lt hk)), TurnsP.of_below HB.out.1, fun k hk _ => hk, HB.out.2, fun j a hj => absurd hj (Nat.not_lt_zero _)⟩
  have m0' : W0.cell? ⟨x.mb, 0, none⟩ = some (.slice (some ⟨x.N, 0, none⟩) arms.length x.cN) := (World.cell?_of_block (a := ⟨x.mb, 0, none⟩) (HB.out.1.block _ hmb)).trans m0
  have hs0 : w.heap.size + 5 ≤ W0.heap.size := lt_of_block HB.out.2.f
  have HHH := Lib.hid hH
  rw [hH] at hs0 ⊢
  clear m0 hmb HB hH
  go_upto_region 3 with (fail)
  go_loopg [20] (arms.length + 1) (fun k v20 wr => ∃ (i : Nat) (R : List Rw), v20 = .int .i64 i ∧ i ≤ arms.length ∧ arms.length + 1 - i ≤ k ∧ Hid (StepI x arms R0 cur c neg M w wr i R))
  case atStart => exact ⟨0, R0, rfl, by omega, by omega, HI⟩
  case round =>
    clear HI m0' hs0 W0
    obtain ⟨i, R, rfl, hi, hik, HX⟩ := hrel
    have hi0 : (0 : Int) ≤ i := by omega
    by_cases hlt : i < arms.length
    · have hlt1 : (i : Int) < arms.length := by omega
      obtain ⟨a, hai⟩ : ∃ a, arms[i]? = some a := ⟨_, List.getElem?_eq_getElem hlt⟩
      obtain ⟨q, hqi⟩ : ∃ q, R[i]? = some q := ⟨_, List.getElem?_eq_getElem (by rw [HX.out.at'.len]; exact hlt)⟩
      have HA := Lib.hid (And.intro hai hqi)
      clear hai hqi
      have n0 := step_net HM.out.2.1 HM.out.2.2.2.1 HM.out.2.2.1 HX.out.tp HA.out.1
      go_upto_region 5 with (fail)
      have HX1 : Hid (StepI x arms R0 cur c neg M w (wr.alloc (.cells #[.int .i64 i] TI)) i R ∧ (wr.alloc (.cells #[.int .i64 i] TI)).heap[wr.heap.size]? = some (.cells #[.int .i64 i] TI (0, 0)) ∧ wr.heap.size < (wr.alloc (.cells #[.int .i64 i] TI)).heap.size) := Lib.hid ⟨HX.out.on (below_new wr _), heap_alloc_new wr _, by rw [World.size_alloc]; omega⟩
      change Code.wp _ _ _ _ (wr.alloc (.cells #[.int .i64 i] TI))
      have HX0 := HX
      clear HX n0
      generalize wr.alloc (.cells #[.int .i64 i] TI) = W1 at *
      obtain ⟨B, hB⟩ : ∃ B, wr.heap.size = B := ⟨_, rfl⟩
      have hB0 := Lib.hid hB
      rw [hB] at HX1 ⊢
      clear hB
      have hB1 := HX1.out.2.2
      have hBH : H + 5 ≤ B := by rw [← hB0.out, ← HHH.out]; exact lt_of_block HX0.out.bx.f
      have hH1 : H + 5 ≤ W1.heap.size := by rw [← HHH.out]; exact lt_of_block HX1.out.1.bx.f
      have s1 := step_cell HM.out.1 HM.out.2.2.2.1 HM.out.2.2.1 HX1.out.1.tp 1 (.slice (some ⟨x.O, 0, none⟩) arms.length x.cO) rfl
      have s2 : W1.cell? ⟨B, 0, none⟩ = some (.int .i64 i) := by rw [cell_of_row _ _ _ _ _ _ HX1.out.2.1]; rfl
      have s3 : W1.cell? ⟨x.O, i, none⟩ = some q.v := rows_cell HX1.out.1.rows HA.out.2
      have s4 : W1.cell? ⟨H + 1, 0, none⟩ = some (.int .i64 cur.length) := by rw [← HHH.out, cell_of_row _ _ _ _ _ _ HX1.out.1.bx.t]; rfl
      have HAT := Lib.hid (HX1.out.1.at'.at' i a q HA.out.1 HA.out.2)
      obtain ⟨i0, hin, hz0, hz1, hz2⟩ := info_parts info_tr
      have HBG : Hid (∀ W, Below W1.heap.size W1 W → Calls Tryd.prog 41 #[.pointer (some ⟨a.b, 0, none⟩)] W fun e w' => ∃ r, e = .returned (.pointer (some ⟨r, 0, none⟩)) ∧ W1.heap.size ≤ r ∧ RunAt w' r a.b a.t [] ∧ Below W1.heap.size W1 w') := Lib.hid fun W hW => (begin_any a.b W).mono fun e w' ⟨h1, h2, h3⟩ => ⟨_, h1, hW.size, h2, hW.trans (h3.mono hW.size)⟩
      have hql : q.l.length ≤ 5000001 := by
        have h := HAT.out.trk.short
        have : (stAt i cur c neg i).1 = cur := by simp [stAt]
        rw [this] at h; omega
      have HS : Hid (∀ W, Below W1.heap.size W1 W → W.cell? ⟨x.mb, 1, none⟩ = some (.slice (some ⟨x.O, 0, none⟩) arms.length x.cO) ∧ W.cell? ⟨B, 0, none⟩ = some (.int .i64 i) ∧ W.cell? ⟨x.O, i, none⟩ = some q.v ∧ W.cell? ⟨H + 1, 0, none⟩ = some (.int .i64 cur.length)) := Lib.hid fun W hW =>
        ⟨(hW.cell (World.block_lt_of_cell? W1 _ s1)).trans s1, (hW.cell (World.block_lt_of_cell? W1 _ s2)).trans s2, (hW.cell (World.block_lt_of_cell? W1 _ s3)).trans s3, (hW.cell (World.block_lt_of_cell? W1 _ s4)).trans s4⟩
      have HOW : Hid (∀ W, Below W1.heap.size W1 W → W.ownsRow 1 TTr 2 q.v q.l.length (trsC q.l)) := Lib.hid fun W hW => own_keep HAT.out.own fun g hg => hW.block g (HAT.out.own.lt g hg).2
      have HNO : Hid (some x.mb ≠ q.v.ownBlock ∧ some B ≠ q.v.ownBlock ∧ some x.O ≠ q.v.ownBlock ∧ some (H + 1) ≠ q.v.ownBlock) := Lib.hid (by
        have hty : ∀ {k : Nat} {cs : Array Value} {ty : TypeId}, W1.heap[k]? = some (.cells cs ty (0, 0)) → ty ≠ TTr → some k ≠ q.v.ownBlock := fun {k cs ty} hk hne e => by
          rcases HAT.out.own.2 with ⟨hv, _⟩ | ⟨g', cap', cs', hv, _, h2, _⟩
          · rw [hv] at e; cases e
          · rw [hv] at e; cases e
            rw [hk] at h2
            injection h2 with h2; injection h2 with _ h2 _; exact hne h2
        obtain ⟨cs, h1, _⟩ := own_blk HX1.out.1.rows
        exact ⟨hty ((HX1.out.1.tp.block x.mb (lt_of_block HM.out.1) (own_not HM.out.2.2.2.1 HM.out.2.2.1 HM.out.1 (by decide))).trans HM.out.1) (by decide), hty HX1.out.2.1 (by decide), hty h1 (by decide), by rw [← HHH.out]; exact hty HX1.out.1.bx.t (by decide)⟩)
      have HOO : Hid (x.O ≠ x.mb ∧ x.O ≠ B ∧ x.O ≠ H + 1) := Lib.hid (by
        obtain ⟨cs, h1, _⟩ := own_blk HX1.out.1.rows
        have hty : ∀ {k : Nat} {cs' : Array Value} {ty : TypeId}, W1.heap[k]? = some (.cells cs' ty (0, 0)) → ty ≠ TTs → x.O ≠ k := fun {k cs' ty} hk hne e => by
          rw [← e, h1] at hk
          injection hk with hk; injection hk with _ hk _; exact hne hk.symm
        exact ⟨hty ((HX1.out.1.tp.block x.mb (lt_of_block HM.out.1) (own_not HM.out.2.2.2.1 HM.out.2.2.1 HM.out.1 (by decide))).trans HM.out.1) (by decide), hty HX1.out.2.1 (by decide), by rw [← HHH.out]; exact hty HX1.out.1.bx.t (by decide)⟩)
      have HSA : Hid (∀ W w3, Below W1.heap.size W1 W → W.grownBy w3 q.v.ownBlock → w3.cell? ⟨x.mb, 1, none⟩ = some (.slice (some ⟨x.O, 0, none⟩) arms.length x.cO) ∧ w3.cell? ⟨B, 0, none⟩ = some (.int .i64 i) ∧ w3.cell? ⟨x.O, i, none⟩ = some q.v ∧ w3.cell? ⟨H + 1, 0, none⟩ = some (.int .i64 cur.length)) := Lib.hid fun W w3 hW hg => by
        obtain ⟨h1, h2, h3, h4⟩ := HS.out W hW
        exact ⟨hg.cell h1 HNO.out.1, hg.cell h2 HNO.out.2.1, hg.cell h3 HNO.out.2.2.1, hg.cell h4 HNO.out.2.2.2⟩
      have HFA : Hid (∀ W w3, Below W1.heap.size W1 W → W.grownBy w3 q.v.ownBlock → w3.frozen? ⟨x.O, i, none⟩ = false) := Lib.hid fun W w3 hW hg => by
        obtain ⟨cs, h1, _⟩ := own_blk HX1.out.1.rows
        have h2 := (hg.block x.O (Nat.lt_of_lt_of_le (lt_of_block h1) hW.size) HNO.out.2.2.1).trans ((hW.block x.O (lt_of_block h1)).trans h1)
        exact frozen_of_row _ _ _ _ _ h2
      have HSS : Hid (∀ W w3, Below W1.heap.size W1 W → W.grownBy w3 q.v.ownBlock → ∀ v, (w3.setCell ⟨x.O, i, none⟩ v).cell? ⟨x.mb, 1, none⟩ = some (.slice (some ⟨x.O, 0, none⟩) arms.length x.cO) ∧ (w3.setCell ⟨x.O, i, none⟩ v).cell? ⟨B, 0, none⟩ = some (.int .i64 i) ∧ (w3.setCell ⟨x.O, i, none⟩ v).cell? ⟨H + 1, 0, none⟩ = some (.int .i64 cur.length)) := Lib.hid fun W w3 hW hg v => by
        obtain ⟨h1, h2, _, h4⟩ := HSA.out W w3 hW hg
        exact ⟨(World.cell?_setCell_far _ _ _ _ HOO.out.1).trans h1, (World.cell?_setCell_far _ _ _ _ HOO.out.2.1).trans h2, (World.cell?_setCell_far _ _ _ _ HOO.out.2.2).trans h4⟩
      refine wp_region_noPanic ?_
      refine wp_region_held_drew (S := (fun w' => w'.cell? ⟨x.mb, 1, none⟩ = some (.slice (some ⟨x.O, 0, none⟩) arms.length x.cO) ∧ w'.cell? ⟨B, 0, none⟩ = some (.int .i64 i) ∧ w'.cell? ⟨H + 1, 0, none⟩ = some (.int .i64 cur.length))) (by kernel_rfl) ?_ (fun hHeld => ?_)
      · (try dsimp only)
        first | exact ⟨s1, s2, s4⟩ | exact ⟨z1, z2, z4⟩ | exact ⟨y1, y2, y4⟩ | exact ⟨k1, k2, k4⟩ | exact HSS.out _ _ (hb2.alloc hb2.size _) hgrow _
      refine wpAnyH_take (i := 0) (v := ?_) (by simp only [List.getElem?_toArray, List.getElem?_cons_zero]; rfl) (by kernel_rfl) (by kernel_rfl) (by kernel_rfl) (by exact fun _ _ _ h => h) (Or.inl ⟨by rfl, ?_⟩) (by assumption) ?_
      rotate_left
      · (intro w hSw; (try clear hHeld); (try dsimp only at hSw); (try go_split_ands); go_simp)
        try with_reducible rfl
      try simp only [Act.put, List.setIfInBounds_toArray, List.set_cons_zero, List.set_cons_succ]
      refine wpAnyH_take (i := 1) (v := ?_) (by simp only [List.getElem?_toArray, List.getElem?_cons_succ, List.getElem?_cons_zero]; rfl) (by kernel_rfl) (by kernel_rfl) (by kernel_rfl) (by exact fun _ _ _ h => h) (Or.inl ⟨by rfl, ?_⟩) (by assumption) ?_
      rotate_left
      · (intro w hSw; (try clear hHeld); (try dsimp only at hSw); (try go_split_ands); go_simp)
        try with_reducible rfl
      try simp only [Act.put, List.setIfInBounds_toArray, List.set_cons_zero, List.set_cons_succ]
      refine wpAnyH_take (i := 2) (v := ?_) (by simp only [List.getElem?_toArray, List.getElem?_cons_succ, List.getElem?_cons_zero]; rfl) (by kernel_rfl) (by kernel_rfl) (by kernel_rfl) (by exact fun _ _ _ h => h) (Or.inl ⟨by rfl, ?_⟩) (by assumption) ?_
      rotate_left
      · (intro w hSw; (try clear hHeld); (try dsimp only at hSw); (try go_split_ands); go_simp)
        try with_reducible rfl
      try simp only [Act.put, List.setIfInBounds_toArray, List.set_cons_zero, List.set_cons_succ]
      refine wpAnyH_take (i := 3) (v := ?_) (by simp only [List.getElem?_toArray, List.getElem?_cons_succ, List.getElem?_cons_zero]; rfl) (by kernel_rfl) (by kernel_rfl) (by kernel_rfl) (by exact fun _ _ _ h => h) (Or.inl ⟨by rfl, ?_⟩) (by assumption) ?_
      rotate_left
      · (intro w hSw; (try clear hHeld); (try dsimp only at hSw); (try go_split_ands); go_simp)
        try with_reducible rfl
      try simp only [Act.put, List.setIfInBounds_toArray, List.set_cons_zero, List.set_cons_succ]
      refine wpAnyH_take (i := 4) (v := ?_) (by simp only [List.getElem?_toArray, List.getElem?_cons_succ, List.getElem?_cons_zero]; rfl) (by kernel_rfl) (by kernel_rfl) (by kernel_rfl) (by exact fun _ _ _ h => h) (Or.inl ⟨by rfl, ?_⟩) (by assumption) ?_
      rotate_left
      · (intro w hSw; (try clear hHeld); (try dsimp only at hSw); (try go_split_ands); go_simp)
        try with_reducible rfl
      try simp only [Act.put, List.setIfInBounds_toArray, List.set_cons_zero, List.set_cons_succ]
      refine wpAnyH_take (i := 5) (v := ?_) (by simp only [List.getElem?_toArray, List.getElem?_cons_succ, List.getElem?_cons_zero]; rfl) (by kernel_rfl) (by kernel_rfl) (by kernel_rfl) (by exact fun _ _ _ h => h) (Or.inl ⟨by rfl, ?_⟩) (by assumption) ?_
      rotate_left
      · (intro w hSw; (try clear hHeld); (try dsimp only at hSw); (try go_split_ands); go_simp)
        try with_reducible rfl
      try simp only [Act.put, List.setIfInBounds_toArray, List.set_cons_zero, List.set_cons_succ]
      refine wpAnyH_take (i := 6) (v := ?_) (by simp only [List.getElem?_toArray, List.getElem?_cons_succ, List.getElem?_cons_zero]; rfl) (by kernel_rfl) (by kernel_rfl) (by kernel_rfl) (by exact fun _ _ _ h => h) (Or.inl ⟨by rfl, ?_⟩) (by assumption) ?_
      rotate_left
      · (intro w hSw; (try clear hHeld); (try dsimp only at hSw); (try go_split_ands); go_simp)
        try with_reducible rfl
      try simp only [Act.put, List.setIfInBounds_toArray, List.set_cons_zero, List.set_cons_succ]
      refine wpAnyH_take (i := 7) (v := ?_) (by simp only [List.getElem?_toArray, List.getElem?_cons_succ, List.getElem?_cons_zero]; rfl) (by kernel_rfl) (by kernel_rfl) (by kernel_rfl) (by exact fun _ _ _ h => h) (Or.inl ⟨by rfl, ?_⟩) (by assumption) ?_
      rotate_left
      · (intro w hSw; (try clear hHeld); (try dsimp only at hSw); (try go_split_ands); go_simp)
        try with_reducible rfl
      try simp only [Act.put, List.setIfInBounds_toArray, List.set_cons_zero, List.set_cons_succ]
      refine wpAnyH_take (i := 8) (v := ?_) (by simp only [List.getElem?_toArray, List.getElem?_cons_succ, List.getElem?_cons_zero]; rfl) (by kernel_rfl) (by kernel_rfl) (by kernel_rfl) (by exact fun _ _ _ h => h) (Or.inl ⟨by rfl, ?_⟩) (by assumption) ?_
      rotate_left
      · (intro w hSw; (try clear hHeld); (try dsimp only at hSw); (try go_split_ands); go_simp)
        try with_reducible rfl
      try simp only [Act.put, List.setIfInBounds_toArray, List.set_cons_zero, List.set_cons_succ]
      refine wpAnyH_take (i := 9) (v := ?_) (by simp only [List.getElem?_toArray, List.getElem?_cons_succ, List.getElem?_cons_zero]; rfl) (by kernel_rfl) (by kernel_rfl) (by kernel_rfl) (by exact fun _ _ _ h => h) (Or.inl ⟨by rfl, ?_⟩) (by assumption) ?_
      rotate_left
      · (intro w hSw; (try clear hHeld); (try dsimp only at hSw); (try go_split_ands); go_simp)
        try with_reducible rfl
      try simp only [Act.put, List.setIfInBounds_toArray, List.set_cons_zero, List.set_cons_succ]
      refine wpAnyH_take (i := 10) (v := ?_) (by simp only [List.getElem?_toArray, List.getElem?_cons_succ, List.getElem?_cons_zero]; rfl) (by kernel_rfl) (by kernel_rfl) (by kernel_rfl) (by exact fun _ _ _ h => h) (Or.inl ⟨by rfl, ?_⟩) (by assumption) ?_
      rotate_left
      · (intro w hSw; (try clear hHeld); (try dsimp only at hSw); (try go_split_ands); go_simp)
        try with_reducible rfl
      try simp only [Act.put, List.setIfInBounds_toArray, List.set_cons_zero, List.set_cons_succ]
      refine wpAnyH_take (i := 12) (v := ?_) (by simp only [List.getElem?_toArray, List.getElem?_cons_succ, List.getElem?_cons_zero]; rfl) (by kernel_rfl) (by kernel_rfl) (by kernel_rfl) (by exact fun _ _ _ h => h) (Or.inl ⟨by rfl, ?_⟩) (by assumption) ?_
      rotate_left
      · (intro w hSw; (try clear hHeld); (try dsimp only at hSw); (try go_split_ands); go_simp)
        try with_reducible rfl
      try simp only [Act.put, List.setIfInBounds_toArray, List.set_cons_zero, List.set_cons_succ]
      refine wpAnyH_take (i := 14) (v := ?_) (by simp only [List.getElem?_toArray, List.getElem?_cons_succ, List.getElem?_cons_zero]; rfl) (by kernel_rfl) (by kernel_rfl) (by kernel_rfl) (by exact fun _ _ _ h => h) (Or.inl ⟨by rfl, ?_⟩) (by assumption) ?_
      rotate_left
      · (intro w hSw; (try clear hHeld); (try dsimp only at hSw); (try go_split_ands); go_simp)
        try with_reducible rfl
      try simp only [Act.put, List.setIfInBounds_toArray, List.set_cons_zero, List.set_cons_succ]
      refine wpAnyH_ready (rs := [11, 13]) (by kernel_rfl) (by simp) ?_
      refine AllReadyH.cons (by simp only [List.getElem?_toArray, List.getElem?_cons_succ, List.getElem?_cons_zero]; rfl) (fun K hK => ?_) ?_
      focus go_simp
      refine hK.out _ _ ?_ (fun hHeld => ?_)
      · (try dsimp only)
        first | exact ⟨s1, s2, s4⟩ | exact ⟨z1, z2, z4⟩ | exact ⟨y1, y2, y4⟩ | exact ⟨k1, k2, k4⟩ | exact HSS.out _ _ (hb2.alloc hb2.size _) hgrow _
      clear hK K
      try simp only [Act.put, List.setIfInBounds_toArray, List.set_cons_zero, List.set_cons_succ]
      refine wpAnyH_ready (rs := [13]) (by kernel_rfl) (by simp) ?_
      refine AllReadyH.cons (by simp only [List.getElem?_toArray, List.getElem?_cons_succ, List.getElem?_cons_zero]; rfl) (fun K hK => ?_) ?_
      focus (go_simp; first | (go_at_call 41; refine (HBG.out W1.drew ⟨rfl, rfl, rfl, Nat.le_refl _, fun _ _ => rfl⟩).mono ?_; rintro e w2 ⟨r, rfl, hr1, hr2, hb2⟩; obtain ⟨k1, k2, k3, k4⟩ := HS.out w2 hb2; obtain ⟨y1, y2, y3, y4⟩ := HS.out _ (hb2.alloc hb2.size (.cells #[.pointer (some ⟨r, 0, none⟩), .int .i64 cur.length] TTr))) | (refine step_append_lies _ rfl (.tmp 36) (.tmp 41) TTs rfl 1 TTr i0 _ 2 16 Tryd.underlying80 hin hz0 hz1 hz2 rfl (by decide) q.v q.l.length (trsC q.l) rfl (HOW.out _ (hb2.alloc hb2.size _)) ⟨w2.heap.size, 0, none⟩ 1 1 [.pointer (some ⟨r, 0, none⟩), .int .i64 cur.length] rfl rfl (World.news_of_block (heap_alloc_new w2 _)) (by simp [Value.oneCell']) (by decide) (by unfold maxLen; omega) (by omega) (by simp only [World.size_alloc]; omega) _ rfl ?_; intro g cap w3 hown hgrow hat hlt; obtain ⟨z1, z2, z3, z4⟩ := HSA.out _ w3 (hb2.alloc hb2.size _) hgrow; have fr3 := HFA.out _ w3 (hb2.alloc hb2.size _) hgrow); (try go_wp2_with fail))
      refine hK.out _ _ ?_ (fun hHeld => ?_)
      · (try dsimp only)
        first | exact ⟨s1, s2, s4⟩ | exact ⟨z1, z2, z4⟩ | exact ⟨y1, y2, y4⟩ | exact ⟨k1, k2, k4⟩ | exact HSS.out _ _ (hb2.alloc hb2.size _) hgrow _
      clear hK K
      try simp only [Act.put, List.setIfInBounds_toArray, List.set_cons_zero, List.set_cons_succ]
      refine wpAnyH_take (i := 15) (v := ?_) (by simp only [List.getElem?_toArray, List.getElem?_cons_succ, List.getElem?_cons_zero]; rfl) (by kernel_rfl) (by kernel_rfl) (by kernel_rfl) (by exact fun _ _ _ h => h) (Or.inl ⟨by rfl, ?_⟩) (by assumption) ?_
      rotate_left
      · (intro w hSw; (try clear hHeld); (try dsimp only at hSw); (try go_split_ands); go_simp)
        try with_reducible rfl
      try simp only [Act.put, List.setIfInBounds_toArray, List.set_cons_zero, List.set_cons_succ]
      refine wpAnyH_ready (rs := [16]) (by kernel_rfl) (by simp) ?_
      refine AllReadyH.cons (by simp only [List.getElem?_toArray, List.getElem?_cons_succ, List.getElem?_cons_zero]; rfl) (fun K hK => ?_) ?_
      focus go_simp
      refine hK.out _ _ ?_ (fun hHeld => ?_)
      · (try dsimp only)
        first | exact ⟨s1, s2, s4⟩ | exact ⟨z1, z2, z4⟩ | exact ⟨y1, y2, y4⟩ | exact ⟨k1, k2, k4⟩ | exact HSS.out _ _ (hb2.alloc hb2.size _) hgrow _
      clear hK K
      try simp only [Act.put, List.setIfInBounds_toArray, List.set_cons_zero, List.set_cons_succ]
      refine wpAnyH_ready (rs := [17]) (by kernel_rfl) (by simp) ?_
      refine AllReadyH.cons (by simp only [List.getElem?_toArray, List.getElem?_cons_succ, List.getElem?_cons_zero]; rfl) (fun K hK => ?_) ?_
      focus first | (go_at_call 41; refine (HBG.out W1.drew ⟨rfl, rfl, rfl, Nat.le_refl _, fun _ _ => rfl⟩).mono ?_; rintro e w2 ⟨r, rfl, hr1, hr2, hb2⟩; obtain ⟨k1, k2, k3, k4⟩ := HS.out w2 hb2; obtain ⟨y1, y2, y3, y4⟩ := HS.out _ (hb2.alloc hb2.size (.cells #[.pointer (some ⟨r, 0, none⟩), .int .i64 cur.length] TTr))) | (refine step_append_lies _ rfl (.tmp 36) (.tmp 41) TTs rfl 1 TTr i0 _ 2 16 Tryd.underlying80 hin hz0 hz1 hz2 rfl (by decide) q.v q.l.length (trsC q.l) rfl (HOW.out _ (hb2.alloc hb2.size _)) ⟨w2.heap.size, 0, none⟩ 1 1 [.pointer (some ⟨r, 0, none⟩), .int .i64 cur.length] rfl rfl (World.news_of_block (heap_alloc_new w2 _)) (by simp [Value.oneCell']) (by decide) (by unfold maxLen; omega) (by omega) (by simp only [World.size_alloc]; omega) _ rfl ?_; intro g cap w3 hown hgrow hat hlt; obtain ⟨z1, z2, z3, z4⟩ := HSA.out _ w3 (hb2.alloc hb2.size _) hgrow; have fr3 := HFA.out _ w3 (hb2.alloc hb2.size _) hgrow)
      refine hK.out _ _ ?_ (fun hHeld => ?_)
      · (try dsimp only)
        first | exact ⟨s1, s2, s4⟩ | exact ⟨z1, z2, z4⟩ | exact ⟨y1, y2, y4⟩ | exact ⟨k1, k2, k4⟩ | exact HSS.out _ _ (hb2.alloc hb2.size _) hgrow _
      clear hK K
      try simp only [Act.put, List.setIfInBounds_toArray, List.set_cons_zero, List.set_cons_succ]
      refine wpAnyH_take (i := 18) (v := ?_) (by simp only [List.getElem?_toArray, List.getElem?_cons_succ, List.getElem?_cons_zero]; rfl) (by kernel_rfl) (by kernel_rfl) (by kernel_rfl) (by exact fun _ _ _ h => h) (Or.inl ⟨by rfl, ?_⟩) (by assumption) ?_
      rotate_left
      · (intro w hSw; (try clear hHeld); (try dsimp only at hSw); (try go_split_ands); go_simp)
        try with_reducible rfl
      try simp only [Act.put, List.setIfInBounds_toArray, List.set_cons_zero, List.set_cons_succ]
      refine wpAnyH_ready (rs := [19]) (by kernel_rfl) (by simp) ?_
      refine AllReadyH.cons (by simp only [List.getElem?_toArray, List.getElem?_cons_succ, List.getElem?_cons_zero]; rfl) (fun K hK => ?_) ?_
      focus go_simp
      refine hK.out _ _ ?_ (fun hHeld => ?_)
      · (try dsimp only)
        first | exact ⟨s1, s2, s4⟩ | exact ⟨z1, z2, z4⟩ | exact ⟨y1, y2, y4⟩ | exact ⟨k1, k2, k4⟩ | exact HSS.out _ _ (hb2.alloc hb2.size _) hgrow _
      clear hK K
      try simp only [Act.put, List.setIfInBounds_toArray, List.set_cons_zero, List.set_cons_succ]
      refine wpAnyH_done (by kernel_rfl) ?_ _
      refine NoPanic.normal ?_
      rotate_left
      exact AllReadyH.nil
      exact AllReadyH.nil
      exact AllReadyH.nil
      exact AllReadyH.nil
      refine AllReadyH.cons (by simp only [List.getElem?_toArray, List.getElem?_cons_succ, List.getElem?_cons_zero]; rfl) (fun K hK => ?_) ?_
      focus (go_simp; first | (go_at_call 41; refine (HBG.out W1.drew ⟨rfl, rfl, rfl, Nat.le_refl _, fun _ _ => rfl⟩).mono ?_; rintro e w2 ⟨r, rfl, hr1, hr2, hb2⟩; obtain ⟨k1, k2, k3, k4⟩ := HS.out w2 hb2; obtain ⟨y1, y2, y3, y4⟩ := HS.out _ (hb2.alloc hb2.size (.cells #[.pointer (some ⟨r, 0, none⟩), .int .i64 cur.length] TTr))) | (refine step_append_lies _ rfl (.tmp 36) (.tmp 41) TTs rfl 1 TTr i0 _ 2 16 Tryd.underlying80 hin hz0 hz1 hz2 rfl (by decide) q.v q.l.length (trsC q.l) rfl (HOW.out _ (hb2.alloc hb2.size _)) ⟨w2.heap.size, 0, none⟩ 1 1 [.pointer (some ⟨r, 0, none⟩), .int .i64 cur.length] rfl rfl (World.news_of_block (heap_alloc_new w2 _)) (by simp [Value.oneCell']) (by decide) (by unfold maxLen; omega) (by omega) (by simp only [World.size_alloc]; omega) _ rfl ?_; intro g cap w3 hown hgrow hat hlt; obtain ⟨z1, z2, z3, z4⟩ := HSA.out _ w3 (hb2.alloc hb2.size _) hgrow; have fr3 := HFA.out _ w3 (hb2.alloc hb2.size _) hgrow); (try go_wp2_with fail))
      refine hK.out _ _ ?_ (fun hHeld => ?_)
      · (try dsimp only)
        first | exact ⟨s1, s2, s4⟩ | exact ⟨z1, z2, z4⟩ | exact ⟨y1, y2, y4⟩ | exact ⟨k1, k2, k4⟩ | exact HSS.out _ _ (hb2.alloc hb2.size _) hgrow _
      clear hK K
      try simp only [Act.put, List.setIfInBounds_toArray, List.set_cons_zero, List.set_cons_succ]
      refine wpAnyH_take (i := 15) (v := ?_) (by simp only [List.getElem?_toArray, List.getElem?_cons_succ, List.getElem?_cons_zero]; rfl) (by kernel_rfl) (by kernel_rfl) (by kernel_rfl) (by exact fun _ _ _ h => h) (Or.inl ⟨by rfl, ?_⟩) (by assumption) ?_
      rotate_left
      · (intro w hSw; (try clear hHeld); (try dsimp only at hSw); (try go_split_ands); go_simp)
        try with_reducible rfl
      try simp only [Act.put, List.setIfInBounds_toArray, List.set_cons_zero, List.set_cons_succ]
      refine wpAnyH_ready (rs := [11, 16]) (by kernel_rfl) (by simp) ?_
      refine AllReadyH.cons (by simp only [List.getElem?_toArray, List.getElem?_cons_succ, List.getElem?_cons_zero]; rfl) (fun K hK => ?_) ?_
      focus go_simp
      refine hK.out _ _ ?_ (fun hHeld => ?_)
      · (try dsimp only)
        first | exact ⟨s1, s2, s4⟩ | exact ⟨z1, z2, z4⟩ | exact ⟨y1, y2, y4⟩ | exact ⟨k1, k2, k4⟩ | exact HSS.out _ _ (hb2.alloc hb2.size _) hgrow _
      clear hK K
      try simp only [Act.put, List.setIfInBounds_toArray, List.set_cons_zero, List.set_cons_succ]
      refine wpAnyH_ready (rs := [16]) (by kernel_rfl) (by simp) ?_
      refine AllReadyH.cons (by simp only [List.getElem?_toArray, List.getElem?_cons_succ, List.getElem?_cons_zero]; rfl) (fun K hK => ?_) ?_
      focus go_simp
      refine hK.out _ _ ?_ (fun hHeld => ?_)
      · (try dsimp only)
        first | exact ⟨s1, s2, s4⟩ | exact ⟨z1, z2, z4⟩ | exact ⟨y1, y2, y4⟩ | exact ⟨k1, k2, k4⟩ | exact HSS.out _ _ (hb2.alloc hb2.size _) hgrow _
      clear hK K
      try simp only [Act.put, List.setIfInBounds_toArray, List.set_cons_zero, List.set_cons_succ]
      refine wpAnyH_ready (rs := [17]) (by kernel_rfl) (by simp) ?_
      refine AllReadyH.cons (by simp only [List.getElem?_toArray, List.getElem?_cons_succ, List.getElem?_cons_zero]; rfl) (fun K hK => ?_) ?_
      focus first | (go_at_call 41; refine (HBG.out W1.drew ⟨rfl, rfl, rfl, Nat.le_refl _, fun _ _ => rfl⟩).mono ?_; rintro e w2 ⟨r, rfl, hr1, hr2, hb2⟩; obtain ⟨k1, k2, k3, k4⟩ := HS.out w2 hb2; obtain ⟨y1, y2, y3, y4⟩ := HS.out _ (hb2.alloc hb2.size (.cells #[.pointer (some ⟨r, 0, none⟩), .int .i64 cur.length] TTr))) | (refine step_append_lies _ rfl (.tmp 36) (.tmp 41) TTs rfl 1 TTr i0 _ 2 16 Tryd.underlying80 hin hz0 hz1 hz2 rfl (by decide) q.v q.l.length (trsC q.l) rfl (HOW.out _ (hb2.alloc hb2.size _)) ⟨w2.heap.size, 0, none⟩ 1 1 [.pointer (some ⟨r, 0, none⟩), .int .i64 cur.length] rfl rfl (World.news_of_block (heap_alloc_new w2 _)) (by simp [Value.oneCell']) (by decide) (by unfold maxLen; omega) (by omega) (by simp only [World.size_alloc]; omega) _ rfl ?_; intro g cap w3 hown hgrow hat hlt; obtain ⟨z1, z2, z3, z4⟩ := HSA.out _ w3 (hb2.alloc hb2.size _) hgrow; have fr3 := HFA.out _ w3 (hb2.alloc hb2.size _) hgrow)
      refine hK.out _ _ ?_ (fun hHeld => ?_)
      · (try dsimp only)
        first | exact ⟨s1, s2, s4⟩ | exact ⟨z1, z2, z4⟩ | exact ⟨y1, y2, y4⟩ | exact ⟨k1, k2, k4⟩ | exact HSS.out _ _ (hb2.alloc hb2.size _) hgrow _
      clear hK K
      try simp only [Act.put, List.setIfInBounds_toArray, List.set_cons_zero, List.set_cons_succ]
      refine wpAnyH_take (i := 18) (v := ?_) (by simp only [List.getElem?_toArray, List.getElem?_cons_succ, List.getElem?_cons_zero]; rfl) (by kernel_rfl) (by kernel_rfl) (by kernel_rfl) (by exact fun _ _ _ h => h) (Or.inl ⟨by rfl, ?_⟩) (by assumption) ?_
      rotate_left
      · (intro w hSw; (try clear hHeld); (try dsimp only at hSw); (try go_split_ands); go_simp)
        try with_reducible rfl
      try simp only [Act.put, List.setIfInBounds_toArray, List.set_cons_zero, List.set_cons_succ]
      refine wpAnyH_ready (rs := [19]) (by kernel_rfl) (by simp) ?_
      refine AllReadyH.cons (by simp only [List.getElem?_toArray, List.getElem?_cons_succ, List.getElem?_cons_zero]; rfl) (fun K hK => ?_) ?_
      focus go_simp
      refine hK.out _ _ ?_ (fun hHeld => ?_)
      · (try dsimp only)
        first | exact ⟨s1, s2, s4⟩ | exact ⟨z1, z2, z4⟩ | exact ⟨y1, y2, y4⟩ | exact ⟨k1, k2, k4⟩ | exact HSS.out _ _ (hb2.alloc hb2.size _) hgrow _
      clear hK K
      try simp only [Act.put, List.setIfInBounds_toArray, List.set_cons_zero, List.set_cons_succ]
      refine wpAnyH_done (by kernel_rfl) ?_ _
      refine NoPanic.normal ?_
      rotate_left
      exact AllReadyH.nil
      exact AllReadyH.nil
      exact AllReadyH.nil
      refine AllReadyH.cons (by simp only [List.getElem?_toArray, List.getElem?_cons_succ, List.getElem?_cons_zero]; rfl) (fun K hK => ?_) ?_
      focus go_simp
      refine hK.out _ _ ?_ (fun hHeld => ?_)
      · (try dsimp only)
        first | exact ⟨s1, s2, s4⟩ | exact ⟨z1, z2, z4⟩ | exact ⟨y1, y2, y4⟩ | exact ⟨k1, k2, k4⟩ | exact HSS.out _ _ (hb2.alloc hb2.size _) hgrow _
      clear hK K
      try simp only [Act.put, List.setIfInBounds_toArray, List.set_cons_zero, List.set_cons_succ]
      refine wpAnyH_ready (rs := [11]) (by kernel_rfl) (by simp) ?_
      refine AllReadyH.cons (by simp only [List.getElem?_toArray, List.getElem?_cons_succ, List.getElem?_cons_zero]; rfl) (fun K hK => ?_) ?_
      focus go_simp
      refine hK.out _ _ ?_ (fun hHeld => ?_)
      · (try dsimp only)
        first | exact ⟨s1, s2, s4⟩ | exact ⟨z1, z2, z4⟩ | exact ⟨y1, y2, y4⟩ | exact ⟨k1, k2, k4⟩ | exact HSS.out _ _ (hb2.alloc hb2.size _) hgrow _
      clear hK K
      try simp only [Act.put, List.setIfInBounds_toArray, List.set_cons_zero, List.set_cons_succ]
      refine wpAnyH_ready (rs := [17]) (by kernel_rfl) (by simp) ?_
      refine AllReadyH.cons (by simp only [List.getElem?_toArray, List.getElem?_cons_succ, List.getElem?_cons_zero]; rfl) (fun K hK => ?_) ?_
      focus first | (go_at_call 41; refine (HBG.out W1.drew ⟨rfl, rfl, rfl, Nat.le_refl _, fun _ _ => rfl⟩).mono ?_; rintro e w2 ⟨r, rfl, hr1, hr2, hb2⟩; obtain ⟨k1, k2, k3, k4⟩ := HS.out w2 hb2; obtain ⟨y1, y2, y3, y4⟩ := HS.out _ (hb2.alloc hb2.size (.cells #[.pointer (some ⟨r, 0, none⟩), .int .i64 cur.length] TTr))) | (refine step_append_lies _ rfl (.tmp 36) (.tmp 41) TTs rfl 1 TTr i0 _ 2 16 Tryd.underlying80 hin hz0 hz1 hz2 rfl (by decide) q.v q.l.length (trsC q.l) rfl (HOW.out _ (hb2.alloc hb2.size _)) ⟨w2.heap.size, 0, none⟩ 1 1 [.pointer (some ⟨r, 0, none⟩), .int .i64 cur.length] rfl rfl (World.news_of_block (heap_alloc_new w2 _)) (by simp [Value.oneCell']) (by decide) (by unfold maxLen; omega) (by omega) (by simp only [World.size_alloc]; omega) _ rfl ?_; intro g cap w3 hown hgrow hat hlt; obtain ⟨z1, z2, z3, z4⟩ := HSA.out _ w3 (hb2.alloc hb2.size _) hgrow; have fr3 := HFA.out _ w3 (hb2.alloc hb2.size _) hgrow)
      refine hK.out _ _ ?_ (fun hHeld => ?_)
      · (try dsimp only)
        first | exact ⟨s1, s2, s4⟩ | exact ⟨z1, z2, z4⟩ | exact ⟨y1, y2, y4⟩ | exact ⟨k1, k2, k4⟩ | exact HSS.out _ _ (hb2.alloc hb2.size _) hgrow _
      clear hK K
      try simp only [Act.put, List.setIfInBounds_toArray, List.set_cons_zero, List.set_cons_succ]
      refine wpAnyH_take (i := 18) (v := ?_) (by simp only [List.getElem?_toArray, List.getElem?_cons_succ, List.getElem?_cons_zero]; rfl) (by kernel_rfl) (by kernel_rfl) (by kernel_rfl) (by exact fun _ _ _ h => h) (Or.inl ⟨by rfl, ?_⟩) (by assumption) ?_
      rotate_left
      · (intro w hSw; (try clear hHeld); (try dsimp only at hSw); (try go_split_ands); go_simp)
        try with_reducible rfl
      try simp only [Act.put, List.setIfInBounds_toArray, List.set_cons_zero, List.set_cons_succ]
      refine wpAnyH_ready (rs := [19]) (by kernel_rfl) (by simp) ?_
      refine AllReadyH.cons (by simp only [List.getElem?_toArray, List.getElem?_cons_succ, List.getElem?_cons_zero]; rfl) (fun K hK => ?_) ?_
      focus go_simp
      refine hK.out _ _ ?_ (fun hHeld => ?_)
      · (try dsimp only)
        first | exact ⟨s1, s2, s4⟩ | exact ⟨z1, z2, z4⟩ | exact ⟨y1, y2, y4⟩ | exact ⟨k1, k2, k4⟩ | exact HSS.out _ _ (hb2.alloc hb2.size _) hgrow _
      clear hK K
      try simp only [Act.put, List.setIfInBounds_toArray, List.set_cons_zero, List.set_cons_succ]
      refine wpAnyH_done (by kernel_rfl) ?_ _
      refine NoPanic.normal ?_
      rotate_left
      exact AllReadyH.nil
      exact AllReadyH.nil
      exact AllReadyH.nil
      exact AllReadyH.nil
      exact AllReadyH.nil
      all_goals (
        have HR5 := Lib.hid (round5 HM.out.2.1 HM.out.2.2.1 HM.out.2.2.2.1 HHH.out HX1.out.1 HX1.out.2.1 hBH HA.out.1 HA.out.2 hr1 hr2 hb2 _ hown hgrow hat)
        clear hin hz0 hz1 hz2 HBG HS HOW HNO HOO HSA HFA HSS hr1 hr2 hb2 hown hgrow hat s1 s2 s3 s4 HAT
        clear z1 z2 z3 z4 fr3
        try clear k1 k2 k3 k4
        try clear y1 y2 y3 y4
        generalize w3.setCell ⟨x.O, i, none⟩ (.slice (some ⟨g, 0, none⟩) (q.l.length + 1) cap) = W5 at *
        have t1 := step_cell HM.out.1 HM.out.2.2.2.1 HM.out.2.2.1 (HX1.out.1.tp.also HR5.out.tp (r5_own HX1.out.1 HA.out.2)) 1 (.slice (some ⟨x.O, 0, none⟩) arms.length x.cO) rfl
        have t2 : W5.cell? ⟨B, 0, none⟩ = some (.int .i64 i) := by rw [cell_of_row _ _ _ _ _ _ HR5.out.bx.i]; rfl
        have t3 : W5.cell? ⟨x.O, i, none⟩ = some (.slice (some ⟨g, 0, none⟩) (q.l.length + 1) cap) := rows_cell HR5.out.rows (List.getElem?_set_self (List.getElem?_eq_some_iff.1 HA.out.2).1)
        have HPS : Hid (∀ W, Below W5.heap.size W5 W → Calls Tryd.prog 42 #[.slice (some ⟨g, 0, none⟩) (q.l.length + 1) cap, .func (.func 43) #[] #[.pointer (some ⟨H + 1 + 1, 0, none⟩), .pointer (some ⟨H + 1, 0, none⟩), .pointer (some ⟨H, 0, none⟩), .pointer (some ⟨H + 1 + 1 + 1, 0, none⟩), .pointer (some ⟨B, 0, none⟩), .pointer (some ⟨H + 1 + 1 + 1 + 1, 0, none⟩)]] W (Pass7 x arms a R0 cur c neg M i B g cap w R)) := Lib.hid fun W hW => by
          rw [← HHH.out]
          exact pass7 HX1.out.1 HA.out.1 HA.out.2 (by rw [HHH.out]; exact HR5.out.on hW) HM.out.1 HM.out.2.2.2.1 HM.out.2.2.1 HM.out.2.2.2.2 hlen
        go_upto_region 6 with (fail)
        refine wp_region_noPanic ?_
        refine wp_region_held_drew (S := (fun w' => w'.cell? ⟨x.mb, 1, none⟩ = some (.slice (some ⟨x.O, 0, none⟩) arms.length x.cO) ∧ w'.cell? ⟨B, 0, none⟩ = some (.int .i64 i))) (by kernel_rfl) ?_ (fun hHeld => ?_)
        · (try dsimp only)
          first | exact ⟨t1, t2⟩ | exact ⟨k1, k2⟩ | exact ⟨k4, k5⟩
        refine wpAnyH_take (i := 0) (v := ?_) (by simp only [List.getElem?_toArray, List.getElem?_cons_zero]; rfl) (by kernel_rfl) (by kernel_rfl) (by kernel_rfl) (by exact fun _ _ _ h => h) (Or.inl ⟨by rfl, ?_⟩) (by assumption) ?_
        rotate_left
        · (intro w hSw; (try clear hHeld); (try dsimp only at hSw); (try go_split_ands); go_simp)
          try with_reducible rfl
        try simp only [Act.put, List.setIfInBounds_toArray, List.set_cons_zero, List.set_cons_succ]
        refine wpAnyH_take (i := 1) (v := ?_) (by simp only [List.getElem?_toArray, List.getElem?_cons_succ, List.getElem?_cons_zero]; rfl) (by kernel_rfl) (by kernel_rfl) (by kernel_rfl) (by exact fun _ _ _ h => h) (Or.inl ⟨by rfl, ?_⟩) (by assumption) ?_
        rotate_left
        · (intro w hSw; (try clear hHeld); (try dsimp only at hSw); (try go_split_ands); go_simp)
          try with_reducible rfl
        try simp only [Act.put, List.setIfInBounds_toArray, List.set_cons_zero, List.set_cons_succ]
        refine wpAnyH_take (i := 2) (v := ?_) (by simp only [List.getElem?_toArray, List.getElem?_cons_succ, List.getElem?_cons_zero]; rfl) (by kernel_rfl) (by kernel_rfl) (by kernel_rfl) (by exact fun _ _ _ h => h) (Or.inl ⟨by rfl, ?_⟩) (by assumption) ?_
        rotate_left
        · (intro w hSw; (try clear hHeld); (try dsimp only at hSw); (try go_split_ands); go_simp)
          try with_reducible rfl
        try simp only [Act.put, List.setIfInBounds_toArray, List.set_cons_zero, List.set_cons_succ]
        refine wpAnyH_take (i := 3) (v := ?_) (by simp only [List.getElem?_toArray, List.getElem?_cons_succ, List.getElem?_cons_zero]; rfl) (by kernel_rfl) (by kernel_rfl) (by kernel_rfl) (by exact fun _ _ _ h => h) (Or.inl ⟨by rfl, ?_⟩) (by assumption) ?_
        rotate_left
        · (intro w hSw; (try clear hHeld); (try dsimp only at hSw); (try go_split_ands); go_simp)
          try with_reducible rfl
        try simp only [Act.put, List.setIfInBounds_toArray, List.set_cons_zero, List.set_cons_succ]
        refine wpAnyH_take (i := 4) (v := ?_) (by simp only [List.getElem?_toArray, List.getElem?_cons_succ, List.getElem?_cons_zero]; rfl) (by kernel_rfl) (by kernel_rfl) (by kernel_rfl) (by exact fun _ _ _ h => h) (Or.inl ⟨by rfl, ?_⟩) (by assumption) ?_
        rotate_left
        · (intro w hSw; (try clear hHeld); (try dsimp only at hSw); (try go_split_ands); go_simp)
          try with_reducible rfl
        try simp only [Act.put, List.setIfInBounds_toArray, List.set_cons_zero, List.set_cons_succ]
        refine wpAnyH_take (i := 5) (v := ?_) (by simp only [List.getElem?_toArray, List.getElem?_cons_succ, List.getElem?_cons_zero]; rfl) (by kernel_rfl) (by kernel_rfl) (by kernel_rfl) (by exact fun _ _ _ h => h) (Or.inl ⟨by rfl, ?_⟩) (by assumption) ?_
        rotate_left
        · (intro w hSw; (try clear hHeld); (try dsimp only at hSw); (try go_split_ands); go_simp)
          try with_reducible rfl
        try simp only [Act.put, List.setIfInBounds_toArray, List.set_cons_zero, List.set_cons_succ]
        refine wpAnyH_take (i := 6) (v := ?_) (by simp only [List.getElem?_toArray, List.getElem?_cons_succ, List.getElem?_cons_zero]; rfl) (by kernel_rfl) (by kernel_rfl) (by kernel_rfl) (by exact fun _ _ _ h => h) (Or.inl ⟨by rfl, ?_⟩) (by assumption) ?_
        rotate_left
        · (intro w hSw; (try clear hHeld); (try dsimp only at hSw); (try go_split_ands); go_simp)
          try with_reducible rfl
        try simp only [Act.put, List.setIfInBounds_toArray, List.set_cons_zero, List.set_cons_succ]
        refine wpAnyH_take (i := 7) (v := ?_) (by simp only [List.getElem?_toArray, List.getElem?_cons_succ, List.getElem?_cons_zero]; rfl) (by kernel_rfl) (by kernel_rfl) (by kernel_rfl) (by exact fun _ _ _ h => h) (Or.inl ⟨by rfl, ?_⟩) (by assumption) ?_
        rotate_left
        · (intro w hSw; (try clear hHeld); (try dsimp only at hSw); (try go_split_ands); go_simp)
          try with_reducible rfl
        try simp only [Act.put, List.setIfInBounds_toArray, List.set_cons_zero, List.set_cons_succ]
        refine wpAnyH_take (i := 8) (v := ?_) (by simp only [List.getElem?_toArray, List.getElem?_cons_succ, List.getElem?_cons_zero]; rfl) (by kernel_rfl) (by kernel_rfl) (by kernel_rfl) (by exact fun _ _ _ h => h) (Or.inl ⟨by rfl, ?_⟩) (by assumption) ?_
        rotate_left
        · (intro w hSw; (try clear hHeld); (try dsimp only at hSw); (try go_split_ands); go_simp)
          try with_reducible rfl
        try simp only [Act.put, List.setIfInBounds_toArray, List.set_cons_zero, List.set_cons_succ]
        refine wpAnyH_take (i := 9) (v := ?_) (by simp only [List.getElem?_toArray, List.getElem?_cons_succ, List.getElem?_cons_zero]; rfl) (by kernel_rfl) (by kernel_rfl) (by kernel_rfl) (by exact fun _ _ _ h => h) (Or.inl ⟨by rfl, ?_⟩) (by assumption) ?_
        rotate_left
        · (intro w hSw; (try clear hHeld); (try dsimp only at hSw); (try go_split_ands); go_simp)
          try with_reducible rfl
        try simp only [Act.put, List.setIfInBounds_toArray, List.set_cons_zero, List.set_cons_succ]
        refine wpAnyH_take (i := 10) (v := ?_) (by simp only [List.getElem?_toArray, List.getElem?_cons_succ, List.getElem?_cons_zero]; rfl) (by kernel_rfl) (by kernel_rfl) (by kernel_rfl) (by exact fun _ _ _ h => h) (Or.inl ⟨by rfl, ?_⟩) (by assumption) ?_
        rotate_left
        · (intro w hSw; (try clear hHeld); (try dsimp only at hSw); (try go_split_ands); go_simp)
          try with_reducible rfl
        try simp only [Act.put, List.setIfInBounds_toArray, List.set_cons_zero, List.set_cons_succ]
        refine wpAnyH_ready (rs := [11, 12]) (by kernel_rfl) (by simp) ?_
        refine AllReadyH.cons (by simp only [List.getElem?_toArray, List.getElem?_cons_succ, List.getElem?_cons_zero]; rfl) (fun K hK => ?_) ?_
        focus go_simp
        refine hK.out _ _ ?_ (fun hHeld => ?_)
        · (try dsimp only)
          first | exact ⟨t1, t2⟩ | exact ⟨k1, k2⟩ | exact ⟨k4, k5⟩
        clear hK K
        try simp only [Act.put, List.setIfInBounds_toArray, List.set_cons_zero, List.set_cons_succ]
        refine wpAnyH_ready (rs := [12]) (by kernel_rfl) (by simp) ?_
        refine AllReadyH.cons (by simp only [List.getElem?_toArray, List.getElem?_cons_succ, List.getElem?_cons_zero]; rfl) (fun K hK => ?_) ?_
        focus go_simp
        refine hK.out _ _ ?_ (fun hHeld => ?_)
        · (try dsimp only)
          first | exact ⟨t1, t2⟩ | exact ⟨k1, k2⟩ | exact ⟨k4, k5⟩
        clear hK K
        try simp only [Act.put, List.setIfInBounds_toArray, List.set_cons_zero, List.set_cons_succ]
        refine wpAnyH_ready (rs := [13]) (by kernel_rfl) (by simp) ?_
        refine AllReadyH.cons (by simp only [List.getElem?_toArray, List.getElem?_cons_succ, List.getElem?_cons_zero]; rfl) (fun K hK => ?_) ?_
        focus (go_simp; first | (go_at_call 42; refine (HPS.out W5.drew ⟨rfl, rfl, rfl, Nat.le_refl _, fun _ _ => rfl⟩).mono ?_; rintro e w6 ⟨l', rfl, k1, k2, ⟨u0, k3⟩, k4, k5, f6, h7⟩); (try go_wp2_with fail))
        refine hK.out _ _ ?_ (fun hHeld => ?_)
        · (try dsimp only)
          first | exact ⟨t1, t2⟩ | exact ⟨k1, k2⟩ | exact ⟨k4, k5⟩
        clear hK K
        try simp only [Act.put, List.setIfInBounds_toArray, List.set_cons_zero, List.set_cons_succ]
        refine wpAnyH_take (i := 14) (v := ?_) (by simp only [List.getElem?_toArray, List.getElem?_cons_succ, List.getElem?_cons_zero]; rfl) (by kernel_rfl) (by kernel_rfl) (by kernel_rfl) (by exact fun _ _ _ h => h) (Or.inl ⟨by rfl, ?_⟩) (by assumption) ?_
        rotate_left
        · (intro w hSw; (try clear hHeld); (try dsimp only at hSw); (try go_split_ands); go_simp)
          try with_reducible rfl
        try simp only [Act.put, List.setIfInBounds_toArray, List.set_cons_zero, List.set_cons_succ]
        refine wpAnyH_ready (rs := [15]) (by kernel_rfl) (by simp) ?_
        refine AllReadyH.cons (by simp only [List.getElem?_toArray, List.getElem?_cons_succ, List.getElem?_cons_zero]; rfl) (fun K hK => ?_) ?_
        focus go_simp
        refine hK.out _ _ ?_ (fun hHeld => ?_)
        · (try dsimp only)
          first | exact ⟨t1, t2⟩ | exact ⟨k1, k2⟩ | exact ⟨k4, k5⟩
        clear hK K
        try simp only [Act.put, List.setIfInBounds_toArray, List.set_cons_zero, List.set_cons_succ]
        refine wpAnyH_done (by kernel_rfl) ?_ _
        refine NoPanic.normal ?_
        rotate_left
        exact AllReadyH.nil
        exact AllReadyH.nil
        exact AllReadyH.nil
        refine AllReadyH.cons (by simp only [List.getElem?_toArray, List.getElem?_cons_succ, List.getElem?_cons_zero]; rfl) (fun K hK => ?_) ?_
        focus go_simp
        refine hK.out _ _ ?_ (fun hHeld => ?_)
        · (try dsimp only)
          first | exact ⟨t1, t2⟩ | exact ⟨k1, k2⟩ | exact ⟨k4, k5⟩
        clear hK K
        try simp only [Act.put, List.setIfInBounds_toArray, List.set_cons_zero, List.set_cons_succ]
        refine wpAnyH_ready (rs := [11]) (by kernel_rfl) (by simp) ?_
        refine AllReadyH.cons (by simp only [List.getElem?_toArray, List.getElem?_cons_succ, List.getElem?_cons_zero]; rfl) (fun K hK => ?_) ?_
        focus go_simp
        refine hK.out _ _ ?_ (fun hHeld => ?_)
        · (try dsimp only)
          first | exact ⟨t1, t2⟩ | exact ⟨k1, k2⟩ | exact ⟨k4, k5⟩
        clear hK K
        try simp only [Act.put, List.setIfInBounds_toArray, List.set_cons_zero, List.set_cons_succ]
        refine wpAnyH_ready (rs := [13]) (by kernel_rfl) (by simp) ?_
        refine AllReadyH.cons (by simp only [List.getElem?_toArray, List.getElem?_cons_succ, List.getElem?_cons_zero]; rfl) (fun K hK => ?_) ?_
        focus (go_simp; first | (go_at_call 42; refine (HPS.out W5.drew ⟨rfl, rfl, rfl, Nat.le_refl _, fun _ _ => rfl⟩).mono ?_; rintro e w6 ⟨l', rfl, k1, k2, ⟨u0, k3⟩, k4, k5, f6, h7⟩); (try go_wp2_with fail))
        refine hK.out _ _ ?_ (fun hHeld => ?_)
        · (try dsimp only)
          first | exact ⟨t1, t2⟩ | exact ⟨k1, k2⟩ | exact ⟨k4, k5⟩
        clear hK K
        try simp only [Act.put, List.setIfInBounds_toArray, List.set_cons_zero, List.set_cons_succ]
        refine wpAnyH_take (i := 14) (v := ?_) (by simp only [List.getElem?_toArray, List.getElem?_cons_succ, List.getElem?_cons_zero]; rfl) (by kernel_rfl) (by kernel_rfl) (by kernel_rfl) (by exact fun _ _ _ h => h) (Or.inl ⟨by rfl, ?_⟩) (by assumption) ?_
        rotate_left
        · (intro w hSw; (try clear hHeld); (try dsimp only at hSw); (try go_split_ands); go_simp)
          try with_reducible rfl
        try simp only [Act.put, List.setIfInBounds_toArray, List.set_cons_zero, List.set_cons_succ]
        refine wpAnyH_ready (rs := [15]) (by kernel_rfl) (by simp) ?_
        refine AllReadyH.cons (by simp only [List.getElem?_toArray, List.getElem?_cons_succ, List.getElem?_cons_zero]; rfl) (fun K hK => ?_) ?_
        focus go_simp
        refine hK.out _ _ ?_ (fun hHeld => ?_)
        · (try dsimp only)
          first | exact ⟨t1, t2⟩ | exact ⟨k1, k2⟩ | exact ⟨k4, k5⟩
        clear hK K
        try simp only [Act.put, List.setIfInBounds_toArray, List.set_cons_zero, List.set_cons_succ]
        refine wpAnyH_done (by kernel_rfl) ?_ _
        refine NoPanic.normal ?_
        rotate_left
        exact AllReadyH.nil
        exact AllReadyH.nil
        exact AllReadyH.nil
        exact AllReadyH.nil
        all_goals (
          clear HR5 HPS t1 t2 t3 k1 k2 k3 k4 k5 f6 u0
          generalize w6.setCell ⟨x.O, i, none⟩ (.slice (some ⟨g, 0, none⟩) l'.length cap) = W7 at *
          have hb7 := h7.out.bx
          rw [HHH.out] at hb7
          cases hf : fromOf a.t (cur ++ [c]) with
          | none =>
            rw [hf] at hb7
            have a0 : W7.cell? ⟨H + 1 + 1 + 1, 0, none⟩ = some (.int .i64 (-1)) := by rw [cell_of_row _ _ 0 _ _ _ hb7.a]; rfl
            have HF := Lib.hid hf
            clear hb7 hf
            go_wp2_with fail
            go_roundg (gk - 1)
            case measure => omega
            case rel => exact ⟨i + 1, _, by go_num, by omega, by omega, Lib.hid (r7_next h7.out HX1.out.1.none HA.out.1 HF.out)⟩
          | some p =>
            rw [hf] at hb7
            have a0 : W7.cell? ⟨H + 1 + 1 + 1, 0, none⟩ = some (.int .i64 i) := by rw [cell_of_row _ _ 0 _ _ _ hb7.a]; rfl
            have a1 : W7.cell? ⟨H + 1 + 1 + 1 + 1, 0, none⟩ = some (.int .i64 p) := by rw [cell_of_row _ _ 0 _ _ _ hb7.f]; rfl
            have HF := Lib.hid hf
            clear hb7 hf
            go_upto_region 8 with (fail)
            go_quiet (fail)
            go_wp2_with fail
            go_ret3
            exact step_hit h7.out HX1.out.1.none HA.out.1 HF.out (below_drew _ _ _)))
    · obtain rfl : i = arms.length := by omega
      have HF := Lib.hid (step_miss HX.out)
      clear HX
      go_wp2_with fail
      go_ret3
      exact HF.out
end Go.Proofs.YtfhggnbnbopkkaaDoor
