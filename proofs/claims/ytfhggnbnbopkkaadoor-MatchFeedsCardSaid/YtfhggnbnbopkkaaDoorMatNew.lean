/- match.New: a matcher of patterns. -/
import Derived.Test.YtfhggnbnbopkkaaDoorMatPats
namespace Go.Proofs.YtfhggnbnbopkkaaDoor
open Go.RowKit PM

set_option maxRecDepth 100000
def NewIs (ps : List Pat) (w : World) (e : Ending) (w' : World) : Prop :=
  (¬ May ps ∧ e = .returned (.tuple #[.pointer none, .int .i64 2]) ∧ Below w.heap.size w w') ∨
  (May ps ∧ ∃ x arms R, e = .returned (.tuple #[.pointer (some ⟨x.mb, 0, none⟩), .int .i64 0]) ∧ MaIs w' x arms [] [] R (.slice none 0 0) ∧ Trees ps (trees arms) ∧ Below w.heap.size w w' ∧ ∀ k, OwnM x R (.slice none 0 0) k → w.heap.size ≤ k)
def nilRow : Rw := ⟨.slice none 0 0, []⟩
def zRows (n : Nat) : Array Value := Array.replicate n (.slice none 0 0)
theorem info_row : (Tryd.prog.info? 80).map (fun i => (i.zero, i.size, i.bytes)) = some (some (.slice none 0 0), 1, 24) := by kernel_rfl
theorem made_rows (n : Nat) : madeCells #[.slice none 0 0] n = zRows n := by
  apply Array.ext
  · simp [zRows, size_madeCells]
  · intro i h1 h2
    simp [madeCells, zRows, Nat.mod_one]
theorem make_rows (n : Nat) (hn : n ≤ 100000) (w : World) :
    (Instr.makeSlice 74 (.int .i64 (n : Int)) (.int .i64 (n : Int))).run Tryd.prog w = .ok (.slice (some ⟨w.heap.size, 0, none⟩) n n) (w.alloc (.cells (zRows n) TTs)) := by
  have h := run_make_row' (P := Tryd.prog) 74 TTs (.slice none 0 0) 24 Tryd.underlying74 info_row rfl .i64 .i64 n (by omega) (by omega) w
  rw [made_rows] at h
  exact h
/-- an arm's row that is none -/
theorem ArmAt.none (w : World) (a : Arm) : ArmAt w a [] false nilRow :=
  ⟨⟨rfl, .inl ⟨rfl, rfl⟩⟩, fun y hy => (by cases hy), rfl, List.Pairwise.nil⟩
theorem rows_none {w : World} {x : Mx} {n : Nat} (hO : w.heap[x.O]? = some (.cells (zRows n) TTs (0, 0))) (h1 : 1 ≤ x.O) (hc : x.cO = n) (hn : n ≤ 8) : Rows w x (List.replicate n nilRow) := by
  unfold Rows
  rw [List.length_replicate, List.map_replicate]
  refine ⟨by simp, .inr ⟨x.O, x.cO, zRows n, rfl, h1, hO, by omega, by rw [hc]; unfold maxLen; omega, by rw [hc, Nat.mul_one]; simp [zRows], ?_⟩⟩
  simp [zRows, nilRow]
theorem arms_none (w : World) (arms : List Arm) : ArmsAt w arms (fun _ => ([], false)) (List.replicate arms.length nilRow) := by
  refine ⟨List.length_replicate, fun i a q ha hq => ?_, fun i j q q' k hq hq' hij hk => ?_⟩
  · rw [List.getElem?_replicate] at hq
    split at hq
    · cases hq; exact ArmAt.none w a
    · cases hq
  · rw [List.getElem?_replicate] at hq
    split at hq
    · cases hq
      rcases hk with hk | hk
      · cases hk
      · cases hk
    · cases hq
/-- what stands while the nets are made -/
structure NewI (w wr : World) (n : Nat) (ps : List Pat) (k : Nat) (nv : Value) (arms : List Arm) : Prop where
  up : Below w.heap.size w wr
  blk : wr.heap[w.heap.size + 1]? = some (.cells #[nv, .slice (some ⟨w.heap.size, 0, none⟩) n n, .slice none 0 0] TMa (0, 0))
  rows : wr.heap[w.heap.size]? = some (.cells (zRows n) TTs (0, 0))
  own : wr.ownsRow (w.heap.size + 2) TNp 1 nv k (arms.map fun a => .pointer (some ⟨a.b, 0, none⟩))
  net : ∀ a ∈ arms, NetIs wr a.b a.t a.A
  len : arms.length = k
  is : ∀ (i : Nat) p a, ps[i]? = some p → arms[i]? = some a → fine p a.t
theorem NewI.on {w wr w' : World} {n k : Nat} {ps : List Pat} {nv : Value} {arms : List Arm} (h : NewI w wr n ps k nv arms) (hb : Below wr.heap.size wr w') : NewI w w' n ps k nv arms :=
  ⟨below_then h.up hb (Nat.le_refl _), (hb.block _ (lt_of_block h.blk)).trans h.blk, (hb.block _ (lt_of_block h.rows)).trans h.rows, own_keep h.own fun g hg => hb.block g (h.own.lt g hg).2, fun a ha => (h.net a ha).on hb, h.len, h.is⟩
theorem tab_on {w w' : World} (h : Tab w) (hb : Below w.heap.size w w') : Tab w' := tab_other h (hb.block 0 h.lt)
/-- a net more -/
theorem NewI.next {w W w3 : World} {n k : Nat} {ps : List Pat} {nv : Value} {arms : List Arm} {b g cap : Nat} {t : T} {A : Nat → Bool} {p : Pat} (h : NewI w W n ps k nv arms) (hn : NetIs W b t A) (hp : ps[k]? = some p) (hf : fine p t)
    (o : Obj) (hown : w3.ownsRow (w.heap.size + 2) TNp 1 (.slice (some ⟨g, 0, none⟩) (k + 1) cap) (k + 1) ((arms.map fun a => .pointer (some ⟨a.b, 0, none⟩)) ++ [.pointer (some ⟨b, 0, none⟩)])) (hgrow : (W.alloc o).grownBy w3 nv.ownBlock) :
    NewI w (w3.setCell ⟨w.heap.size + 1, 0, none⟩ (.slice (some ⟨g, 0, none⟩) (k + 1) cap)) n ps (k + 1) (.slice (some ⟨g, 0, none⟩) (k + 1) cap) (arms ++ [⟨b, t, A⟩]) := by
  have hnv : ∀ j, nv.ownBlock = some j → w.heap.size + 2 ≤ j := fun j hj => (h.own.lt j hj).1
  have hk3 : ∀ j, j < W.heap.size → nv.ownBlock ≠ some j → w3.heap[j]? = W.heap[j]? := fun j hj hne => (hgrow.block j (by rw [World.size_alloc]; omega) (fun e => hne e.symm)).trans (heap_alloc_old W o hj)
  have hkeep : ∀ j, j < W.heap.size → nv.ownBlock ≠ some j → j ≠ w.heap.size + 1 → (w3.setCell ⟨w.heap.size + 1, 0, none⟩ (.slice (some ⟨g, 0, none⟩) (k + 1) cap)).heap[j]? = W.heap[j]? := fun j hj h1 h2 => (heap_setCell_other w3 ⟨w.heap.size + 1, 0, none⟩ j _ h2).trans (hk3 j hj h1)
  have hlow : ∀ j, j < w.heap.size + 2 → nv.ownBlock ≠ some j := fun j hj e => by have := hnv j e; omega
  have hblk3 : w3.heap[w.heap.size + 1]? = some (.cells #[nv, .slice (some ⟨w.heap.size, 0, none⟩) n n, .slice none 0 0] TMa (0, 0)) := (hk3 _ (lt_of_block h.blk) (hlow _ (by omega))).trans h.blk
  have hg2 := (hown.lt g rfl).1
  have hnet : ∀ (b : Nat) (t : T) (A : Nat → Bool), NetIs W b t A → NetIs (w3.setCell ⟨w.heap.size + 1, 0, none⟩ (.slice (some ⟨g, 0, none⟩) (k + 1) cap)) b t A := fun b t A hN => by
    obtain ⟨cs, h1, _⟩ := hN.net
    refine net_other hN (hkeep b (lt_of_block h1) (fun e => ?_) (fun e => ?_))
    · obtain ⟨cs', h2⟩ := own_typed h.own e
      rw [h1] at h2
      injection h2 with h2; injection h2 with _ h2 _
      exact absurd h2 (by decide)
    · rw [e, h.blk] at h1
      injection h1 with h1; injection h1 with _ h1 _
      exact absurd h1 (by decide)
  have hupW := h.up.size
  refine ⟨⟨?_, ?_, ?_, ?_, fun j hj => ?_⟩, ?_, ?_, ?_, fun a ha => ?_, by simp [h.len], fun i q a hq ha => ?_⟩
  · exact hgrow.os.trans h.up.os
  · exact hgrow.tape.trans h.up.tape
  · exact hgrow.output.trans h.up.output
  · have := hgrow.size; rw [World.size_alloc] at this; simp only [World.size_setCell]; omega
  · exact (hkeep j (by omega) (hlow j (by omega)) (by omega)).trans (h.up.block j hj)
  · exact heap_setCell_same w3 (w.heap.size + 1) 0 _ _ (.slice (some ⟨g, 0, none⟩) (k + 1) cap) hblk3
  · exact (hkeep _ (lt_of_block h.rows) (hlow _ (by omega)) (by omega)).trans h.rows
  · rw [List.map_append]
    exact own_keep hown fun j hj => by
      cases hj
      exact heap_setCell_other w3 ⟨w.heap.size + 1, 0, none⟩ g _ (by show g ≠ w.heap.size + 1; omega)
  · rcases List.mem_append.1 ha with ha | ha
    · exact hnet _ _ _ (h.net a ha)
    · rw [List.mem_singleton.1 ha]; exact hnet _ _ _ hn
  · by_cases e : i < k
    · rw [List.getElem?_append_left (by rw [h.len]; exact e)] at ha
      exact h.is i q a hq ha
    · rw [List.getElem?_append_right (by rw [h.len]; omega)] at ha
      obtain ⟨hl, hx⟩ := List.getElem?_eq_some_iff.1 ha
      simp at hl hx
      obtain rfl : i = k := by rw [h.len] at hl; omega
      rw [hp] at hq; cases hq
      rw [← hx]; exact hf
/-- at the end -/
theorem NewI.done {w wr : World} {n : Nat} {ps : List Pat} {nv : Value} {arms : List Arm} (h : NewI w wr n ps n nv arms) (hT : Tab wr) (hp : ps.length = n) (h1 : 1 ≤ n) (h8 : n ≤ 8) (h0 : 0 < w.heap.size) :
    NewIs ps w (.returned (.tuple #[.pointer (some ⟨w.heap.size + 1, 0, none⟩), .int .i64 0])) wr := by
  obtain ⟨g, cap, cs, hv, hg, _⟩ : ∃ g cap cs, nv = .slice (some ⟨g, 0, none⟩) n cap ∧ w.heap.size + 2 ≤ g ∧ wr.heap[g]? = some (.cells cs TNp (0, 0)) := by
    rcases h.own.2 with ⟨_, hv⟩ | ⟨g, cap, cs, hv, hb, hg, _⟩
    · omega
    · exact ⟨g, cap, cs, hv, hb, hg⟩
  subst hv
  have hlen := h.len
  have hall : ∀ p ∈ ps, ∃ t, fine p t := fun p hp' => by
    obtain ⟨i, hi, e⟩ := List.mem_iff_getElem.1 hp'
    exact ⟨_, h.is i p (arms[i]'(by omega)) ((List.getElem?_eq_getElem hi).trans (by rw [e])) (List.getElem?_eq_getElem _)⟩
  refine .inr ⟨⟨⟨by omega, by omega⟩, hall⟩, ⟨w.heap.size + 1, g, cap, w.heap.size, n⟩, arms, List.replicate arms.length nilRow, rfl, ⟨?_, ⟨rfl, .inl ⟨rfl, rfl⟩⟩, ⟨?_, h.net, hT⟩, ?_, arms_none wr arms, by omega⟩, ⟨by simp; omega, fun k p t hk ht => ?_⟩, h.up, fun k hk => ?_⟩
  · rw [hlen]; exact h.blk
  · rw [hlen]; exact h.own.mono (by omega)
  · rw [hlen]; exact rows_none h.rows (by show 1 ≤ w.heap.size; omega) rfl h8
  · rw [List.getElem?_map] at ht
    cases ha : arms[k]? with
    | none => rw [ha] at ht; cases ht
    | some a => rw [ha] at ht; cases ht; exact h.is k p a hk ha
  · rcases hk with rfl | hk | hk | ⟨q, hq, hk⟩
    · show w.heap.size ≤ w.heap.size + 1; omega
    · cases hk
    · show w.heap.size ≤ k; rw [hk]; exact Nat.le_refl _
    · rw [List.mem_replicate] at hq
      rw [hq.2] at hk
      rcases hk with hk | hk
      · cases hk
      · cases hk
theorem info_np : (Tryd.prog.info? TNp).map (fun i => (i.zero, i.size, i.bytes)) = some (some (.pointer none), 1, 8) := by kernel_rfl
set_option maxHeartbeats 4000000 in
theorem new_any (A : Option Addr) (c : Nat) (ps : List Pat) (w : World) (hA : PIn w A ps) (hT : Tab w) (hn : ps.length ≤ 9223372036854775807) :
    Calls Tryd.prog 18 #[.slice A ps.length c] w (NewIs ps w) := by
  have HA := Lib.hid hA
  have HT := Lib.hid hT
  have h0 := hT.lt
  have HC0 : Hid (Below w.heap.size w w) := Lib.hid ⟨rfl, rfl, rfl, Nat.le_refl _, fun _ _ => rfl⟩
  obtain ⟨n, hln⟩ : ∃ n, ps.length = n := ⟨_, rfl⟩
  have HN := Lib.hid hln
  rw [hln] at hn ⊢
  clear hA hln hT
  go_enter Tryd.func18, Tryd.ntmps18
  by_cases h1 : n < 1
  · have HF : Hid (NewIs ps w (.returned (.tuple #[.pointer none, .int .i64 2])) w) := Lib.hid (.inl ⟨fun h => by have := h.1.1; rw [HN.out] at this; omega, rfl, HC0.out⟩)
    go_wp2_with fail
    go_ret2
    exact HF.out
  · by_cases h8 : 8 < n
    · have HF : Hid (NewIs ps w (.returned (.tuple #[.pointer none, .int .i64 2])) w) := Lib.hid (.inl ⟨fun h => by have := h.1.2; rw [HN.out] at this; omega, rfl, HC0.out⟩)
      go_wp2_with fail
      go_ret2
      exact HF.out
    · have hmk := make_rows n (by omega)
      have HI : Hid (NewI w ((w.alloc (.cells (zRows n) TTs)).alloc (.cells #[.slice none 0 0, .slice (some ⟨w.heap.size, 0, none⟩) n n, .slice none 0 0] TMa)) n ps 0 (.slice none 0 0) []) := Lib.hid (by
        have hs : (w.alloc (.cells (zRows n) TTs)).heap.size = w.heap.size + 1 := World.size_alloc _ _
        refine ⟨below_then (below_new w _) (below_new _ _) (Nat.le_refl _), ?_, ?_, ⟨rfl, .inl ⟨rfl, rfl⟩⟩, fun a ha => (by cases ha), rfl, fun i p a _ ha => (by simp at ha)⟩
        · rw [← hs]; exact heap_alloc_new _ _
        · rw [heap_alloc_old _ _ (by rw [hs]; omega)]; exact heap_alloc_new _ _)
      go_upto_region 5 with (fail)
      change Code.wp _ _ _ _ ((w.alloc (.cells (zRows n) TTs)).alloc (.cells #[.slice none 0 0, .slice (some ⟨w.heap.size, 0, none⟩) n n, .slice none 0 0] TMa))
      generalize (w.alloc (.cells (zRows n) TTs)).alloc (.cells #[.slice none 0 0, .slice (some ⟨w.heap.size, 0, none⟩) n n, .slice none 0 0] TMa) = W0 at *
      clear hmk
      obtain ⟨B, hB⟩ : ∃ B, w.heap.size = B := ⟨_, rfl⟩
      have HB := Lib.hid hB
      rw [hB]
      rw [hB] at h0
      clear hB
      go_loopg [24] (n + 1) (fun k v24 wr => ∃ (i : Nat) (nv : Value) (arms : List Arm), v24 = .int .i64 i ∧ i ≤ n ∧ n + 1 - i ≤ k ∧ Hid (NewI w wr n ps i nv arms))
      case atStart => exact ⟨0, _, [], rfl, by omega, by omega, HI⟩
      case round =>
        clear HI W0
        obtain ⟨i, nv, arms, rfl, hi, hik, HX⟩ := hrel
        have hi0 : (0 : Int) ≤ i := by omega
        by_cases hlt : i < n
        · have hlt1 : (i : Int) < n := by omega
          obtain ⟨p, hp⟩ : ∃ p, ps[i]? = some p := ⟨_, List.getElem?_eq_getElem (by rw [HN.out]; exact hlt)⟩
          obtain ⟨ad, rfl, a0, a1⟩ := (HA.out.on HX.out.up).at' i p hp
          have hsz := HA.out.sz p (List.mem_of_getElem? hp)
          have HP := Lib.hid hp
          clear hp
          go_upto_region 7 with (fail)
          have HX1 : Hid (NewI w (wr.alloc (.cells #[.int .i64 p.kind, .string p.text] TPat)) n ps i nv arms ∧ (wr.alloc (.cells #[.int .i64 p.kind, .string p.text] TPat)).heap[wr.heap.size]? = some (.cells #[.int .i64 p.kind, .string p.text] TPat (0, 0))) := Lib.hid ⟨HX.out.on (below_new wr _), heap_alloc_new wr _⟩
          change Code.wp _ _ _ _ (wr.alloc (.cells #[.int .i64 p.kind, .string p.text] TPat))
          clear a0 a1 HX
          generalize wr.alloc (.cells #[.int .i64 p.kind, .string p.text] TPat) = W1 at *
          generalize wr.heap.size = bx at *
          have b0 : W1.cell? ⟨bx, 0, none⟩ = some (.int .i64 p.kind) := by rw [cell_of_row _ _ 0 _ _ _ HX1.out.2]; rfl
          have b1 : W1.cell? ⟨bx, 1, none⟩ = some (.string p.text) := by rw [cell_of_row _ _ 1 _ _ _ HX1.out.2]; rfl
          have HOF := Lib.hid (of_or p.kind p.text W1 hsz (tab_on HT.out HX1.out.1.up))
          go_wp2_with fail
          refine HOF.out.mono ?_
          rintro e W2 (⟨t, b, A, ht, rfl, hnet, hb, hup⟩ | ⟨hno, rfl, hup⟩)
          · have HX2 := Lib.hid (And.intro (HX1.out.1.on hup) (And.intro ((hup.block _ (lt_of_block HX1.out.2)).trans HX1.out.2) (And.intro hnet (And.intro (Nat.le_trans HX1.out.1.up.size hb) ht))))
            clear hup hnet hb ht HOF HX1 b0 b1
            have c0 : W2.cell? ⟨bx, 0, none⟩ = some (.int .i64 p.kind) := by rw [cell_of_row _ _ 0 _ _ _ HX2.out.2.1]; rfl
            have c1 : W2.cell? ⟨bx, 1, none⟩ = some (.string p.text) := by rw [cell_of_row _ _ 1 _ _ _ HX2.out.2.1]; rfl
            have HEM := Lib.hid (pempty_any p.kind p.text W2 hsz)
            go_wp2_with fail
            refine HEM.out.mono ?_
            rintro e W3 ⟨rfl, hup⟩
            rw [emptyP_of HX2.out.2.2.2.2]
            have HX3 := Lib.hid (And.intro (HX2.out.1.on hup) (And.intro (HX2.out.2.2.1.on hup) (HX2.out.2.2.2)))
            clear hup HEM HX2 c0 c1
            cases hem : emptyT t with
            | true =>
              have HF : Hid (NewIs ps w (.returned (.tuple #[.pointer none, .int .i64 2])) W3) := Lib.hid (.inl ⟨fun h => by
                obtain ⟨t', h1, h2⟩ := h.2 p (List.mem_of_getElem? HP.out)
                rw [HX3.out.2.2.2] at h1
                cases h1
                rw [hem] at h2
                exact absurd h2 (by decide), rfl, HX3.out.1.up⟩)
              clear hem
              go_wp2_with fail
              go_ret2
              exact HF.out
            | false =>
              have HFI : Hid (fine p t) := Lib.hid ⟨HX3.out.2.2.2, hem⟩
              clear hem
              go_upto_region 10 with (fail)
              have hm0 : W3.cell? ⟨B + 1, 0, none⟩ = some nv := by rw [← HB.out, cell_of_row _ _ 0 _ _ _ HX3.out.1.blk]; rfl
              have hfm : ∀ j, W3.frozen? ⟨B + 1, j, none⟩ = false := fun j => by rw [← HB.out]; exact frozen_of_row _ _ _ _ _ HX3.out.1.blk
              have hn3 := heap_alloc_new W3 (.cells #[.pointer (some ⟨b, 0, none⟩)] TNp)
              have HOW := Lib.hid (own_keep HX3.out.1.own fun g hg => (below_new W3 (.cells #[.pointer (some ⟨b, 0, none⟩)] TNp)).block g (HX3.out.1.own.lt g hg).2)
              have HBW := Lib.hid (Nat.le_trans (show w.heap.size + 2 ≤ W3.heap.size from lt_of_block HX3.out.1.blk) (below_new W3 (.cells #[.pointer (some ⟨b, 0, none⟩)] TNp)).size)
              have hnm : some (B + 1) ≠ nv.ownBlock := fun e => by have := (HX3.out.1.own.lt _ e.symm).1; rw [HB.out] at this; omega
              have HM3 : Hid (∀ v3, (W3.alloc (.cells #[.pointer (some ⟨b, 0, none⟩)] TNp)).grownBy v3 nv.ownBlock → v3.cell? ⟨B + 1, 0, none⟩ = some nv ∧ ∀ j, v3.frozen? ⟨B + 1, j, none⟩ = false) := Lib.hid fun v3 hg => by
                have hbl := HX3.out.1.blk
                rw [HB.out] at hbl
                have hl := lt_of_block hbl
                have h2 := (hg.block (B + 1) (by rw [World.size_alloc]; omega) hnm).trans ((heap_alloc_old W3 (.cells #[.pointer (some ⟨b, 0, none⟩)] TNp) hl).trans hbl)
                exact ⟨by rw [cell_of_row _ _ _ _ _ _ h2]; rfl, fun j => frozen_of_row _ _ _ _ _ h2⟩
              obtain ⟨i0, hin, hz0, hz1, hz2⟩ := info_parts info_np
              go_wp2_with (at_builtin; go_loud (refine wpList_append_lies _ rfl _ _ 75 rfl (w.heap.size + 2) TNp i0 (.pointer none) 1 8 Tryd.underlying75 hin hz0 hz1 hz2 rfl (by decide) nv i _ rfl HOW.out ⟨W3.heap.size, 0, none⟩ 1 1 [.pointer (some ⟨b, 0, none⟩)] rfl rfl (World.news_of_block hn3) (by simp [Value.oneCell']) (by decide) (by unfold maxLen; omega) (by omega) HBW.out _ rfl ?_; intro g cap w3 hown hgrow hat hlt; obtain ⟨hm3, hf3⟩ := HM3.out w3 hgrow))
              have HX5 := Lib.hid (HX3.out.1.next HX3.out.2.1 HP.out HFI.out _ hown hgrow)
              rw [HB.out] at HX5
              clear hm3 hf3 hown hgrow hat hlt HM3 HOW HBW hnm hn3 hm0 hfm hin hz0 hz1 hz2
              go_roundg (gk - 1)
              case measure => omega
              case rel => exact ⟨i + 1, _, _, by go_num, by omega, by omega, HX5⟩
          · have HF : Hid (NewIs ps w (.returned (.tuple #[.pointer none, .int .i64 2])) W2) := Lib.hid (.inl ⟨fun h => by
              obtain ⟨t', h1, _⟩ := h.2 p (List.mem_of_getElem? HP.out)
              exact hno t' h1, rfl, below_then HX1.out.1.up hup (Nat.le_refl _)⟩)
            clear hno hup HOF HX1 b0 b1
            go_wp2_with fail
            go_ret2
            exact HF.out
        · obtain rfl : i = n := by omega
          have HF := Lib.hid (HX.out.done (tab_on HT.out HX.out.up) HN.out (by omega) (by omega) (by rw [HB.out]; exact h0))
          rw [HB.out] at HF
          go_wp2_with fail
          go_ret2
          exact HF.out
end Go.Proofs.YtfhggnbnbopkkaaDoor
