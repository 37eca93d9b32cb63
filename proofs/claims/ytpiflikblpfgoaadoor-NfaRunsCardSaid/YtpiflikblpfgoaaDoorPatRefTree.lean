/- The document's Tree: the same as the program's. -/
import Derived.Test.YtpiflikblpfgoaaDoorPatRefAtom
import Derived.Test.YtpiflikblpfgoaaDoorPatRefGlob
import Derived.Test.YtpiflikblpfgoaaDoorPatRefUnq
namespace Go.Proofs.YtpiflikblpfgoaaDoor
open Go.RowKit PM
attribute [local go_sem] nodeC

/-- what Tree holds: its box, its two results -/
structure RT (kind : Int) (s : ByteArray) (w wr : World) (X Y : Array Value) : Prop where
  box : wr.heap[w.heap.size]? = some (.cells #[.int .i64 kind, .string s] TPat (0, 0))
  res : wr.heap[w.heap.size + 1]? = some (.cells X TN (0, 0))
  spot : wr.heap[w.heap.size + 2]? = some (.cells Y TSp (0, 0))
  up : Below w.heap.size w wr
theorem RT.on {kind : Int} {s : ByteArray} {w wr w' : World} {X Y : Array Value} (h : RT kind s w wr X Y) (hb : Below wr.heap.size wr w') : RT kind s w w' X Y :=
  ⟨(hb.block _ (lt_of_block h.box)).trans h.box, (hb.block _ (lt_of_block h.res)).trans h.res, (hb.block _ (lt_of_block h.spot)).trans h.spot, below_then h.up hb (Nat.le_refl _)⟩
theorem RT.put {kind : Int} {s : ByteArray} {w wr : World} {X Y : Array Value} (h : RT kind s w wr X Y) (X' : Array Value) : RT kind s w (wr.setRow (w.heap.size + 1) X') X' Y :=
  ⟨(setRow_other _ _ _ _ (by omega)).trans h.box, setRow_heap _ _ _ _ _ _ h.res, (setRow_other _ _ _ _ (by omega)).trans h.spot, h.up.trans (below_rowB _ _ _ _ (by omega))⟩
theorem RT.putS {kind : Int} {s : ByteArray} {w wr : World} {X Y : Array Value} (h : RT kind s w wr X Y) (Y' : Array Value) : RT kind s w (wr.setRow (w.heap.size + 2) Y') X Y' :=
  ⟨(setRow_other _ _ _ _ (by omega)).trans h.box, (setRow_other _ _ _ _ (by omega)).trans h.res, setRow_heap _ _ _ _ _ _ h.spot, h.up.trans (below_rowB _ _ _ _ (by omega))⟩
theorem RT.c0 {kind : Int} {s : ByteArray} {w wr : World} {X Y : Array Value} (h : RT kind s w wr X Y) : wr.cell? ⟨w.heap.size, 0, none⟩ = some (.int .i64 kind) := by rw [cell_of_row wr _ 0 _ _ _ h.box]; rfl
theorem RT.c1 {kind : Int} {s : ByteArray} {w wr : World} {X Y : Array Value} (h : RT kind s w wr X Y) : wr.cell? ⟨w.heap.size, 1, none⟩ = some (.string s) := by rw [cell_of_row wr _ 1 _ _ _ h.box]; rfl
def rtW (kind : Int) (s : ByteArray) (w : World) : World := ((w.alloc (.cells #[.int .i64 kind, .string s] TPat)).alloc (.cells zN TN)).alloc (.cells #[.int .i64 0, .int .i64 0] TSp)
theorem rtW_facts (kind : Int) (s : ByteArray) (w : World) : RT kind s w (rtW kind s w) zN #[.int .i64 0, .int .i64 0] := by
  have b1 := below_new w (.cells #[.int .i64 kind, .string s] TPat)
  have b2 := below_new (w.alloc (.cells #[.int .i64 kind, .string s] TPat)) (.cells zN TN)
  have b3 := below_new ((w.alloc (.cells #[.int .i64 kind, .string s] TPat)).alloc (.cells zN TN)) (.cells #[.int .i64 0, .int .i64 0] TSp)
  have h1 := heap_alloc_new w (.cells #[.int .i64 kind, .string s] TPat)
  have h2 := heap_alloc_new (w.alloc (.cells #[.int .i64 kind, .string s] TPat)) (.cells zN TN)
  have h3 := heap_alloc_new ((w.alloc (.cells #[.int .i64 kind, .string s] TPat)).alloc (.cells zN TN)) (.cells #[.int .i64 0, .int .i64 0] TSp)
  simp only [World.size_alloc] at b2 b3 h2 h3
  exact ⟨(b3.block _ (by omega)).trans ((b2.block _ (by omega)).trans h1), (b3.block _ (by omega)).trans h2, h3, (b1.trans (b2.mono (by omega))).trans (b3.mono (by omega))⟩
/-- a tree handed back -/
theorem RT.done {kind : Int} {s : ByteArray} {w wr : World} {X Y : Array Value} {t : T} {K : Value} (h : RT kind s w wr X Y) (hK : IsT wr (fun b => w.heap.size + 3 ≤ b) K t) :
    TreeIs w (.ok t) (.returned (.tuple #[.agg (nodeC t K).toArray, .agg #[.int .i64 0, .int .i64 0]])) ((wr.setRow (w.heap.size + 1) (nodeC t K).toArray).setRow (w.heap.size + 2) #[.int .i64 0, .int .i64 0]) :=
  ⟨K, rfl, (((hK.grown (grown_row wr (w.heap.size + 1) _) (fun b hb e => by cases e; omega)).grown (grown_row _ (w.heap.size + 2) _) (fun b hb e => by cases e; omega))).imp fun b hb _ => by omega, ((h.put _).putS _).up⟩
theorem RT.sz {kind : Int} {s : ByteArray} {w wr : World} {X Y : Array Value} (h : RT kind s w wr X Y) : w.heap.size + 3 ≤ wr.heap.size := lt_of_block h.spot

theorem results_rows {fn : Func} {p1 p2 : Tmp} (h : fn.results = #[.cell p1 TN, .cell p2 TSp]) (tmps : Array Value) (W : World) (b1 b2 : Nat) (X Y : Array Value)
    (h1 : tmps.getD p1 undef = .pointer (some ⟨b1, 0, none⟩)) (h2 : tmps.getD p2 undef = .pointer (some ⟨b2, 0, none⟩)) (l1 : W.heap[b1]? = some (.cells X TN (0, 0))) (hX : X.size = 6) (l2 : W.heap[b2]? = some (.cells Y TSp (0, 0))) (hY : Y.size = 2) :
    (results fn tmps).run Tryd.prog W = .ok (.tuple #[.agg X, .agg Y]) W :=
  results_rows2 h tmps W b1 b2 _ _ h1 h2 (load_node W b1 X l1 hX) (load_spot W b2 Y l2 hY)

set_option maxRecDepth 100000 in
set_option maxHeartbeats 16000000 in
theorem rtree_any (kind : Int) (s : ByteArray) (w : World) (hs : s.size ≤ 9223372036854775807) :
    Calls Tryd.prog 13 #[.agg #[.int .i64 kind, .string s]] w (TreeIs w (tree kind s.data.toList)) := by
  have hsl : s.data.toList.length = s.size := rfl
  obtain ⟨r, hr⟩ : ∃ r, tree kind s.data.toList = r := ⟨_, rfl⟩
  rw [hr]
  have hT := rtW_facts kind s w
  have HT := Lib.hid hT
  have c0 := hT.c0; have c1 := hT.c1
  clear hT
  unfold tree at hr
  by_cases hk : kind < 1 ∨ 3 < kind
  · rw [if_pos hk] at hr
    subst hr
    have x1 : (kind != 1) = true := by rw [bne_iff_ne]; omega
    have x2 : (kind != 2) = true := by rw [bne_iff_ne]; omega
    have x3 : (kind != 3) = true := by rw [bne_iff_ne]; omega
    have HP := Lib.hid (HT.out.put zN)
    clear hk hsl
    go_enter Tryd.func13, Tryd.ntmps13
    go_upto_region 1 with (fail)
    change Code.wp _ _ _ _ (rtW kind s w)
    generalize rtW kind s w = W0 at *
    go_wp2_with (first | (refine wpList_store_row rfl TN (.tmp 2) (.tmp 22) rfl (w.heap.size + 1) zN rfl rfl TN zN HT.out.res (by kernel_rfl) rfl (by simp [zN, Value.oneCell']) ?_) | (refine wpList_store_row rfl TSp (.tmp 3) (.tmp 23) rfl (w.heap.size + 2) #[.int .i64 2, .int .i64 0] rfl rfl TSp _ HP.out.spot (by kernel_rfl) rfl (by simp [Value.oneCell']) ?_))
    have HQ := Lib.hid (HP.out.putS #[.int .i64 2, .int .i64 0])
    exact bodyPost_ret (v := .tuple #[.agg zN, .agg #[.int .i64 2, .int .i64 0]]) (results_rows rfl _ _ (w.heap.size + 1) (w.heap.size + 2) _ _ rfl rfl HQ.out.res rfl HQ.out.spot rfl) rfl ⟨rfl, HQ.out.up⟩
  rw [if_neg hk] at hr
  by_cases hl : 64 < s.size
  · rw [hsl, if_pos hl] at hr
    subst hr
    have hl2 : (64 : Int) < s.size := by omega
    have HP := Lib.hid (HT.out.put zN)
    have hk3 : kind = 1 ∨ kind = 2 ∨ kind = 3 := by omega
    clear hk hsl
    rcases hk3 with rfl | rfl | rfl
    all_goals
      go_enter Tryd.func13, Tryd.ntmps13
      go_upto_region 1 with (fail)
      first | change Code.wp _ _ _ _ (rtW 1 s w) | change Code.wp _ _ _ _ (rtW 2 s w) | change Code.wp _ _ _ _ (rtW 3 s w)
      first | generalize rtW 1 s w = W0 at * | generalize rtW 2 s w = W0 at * | generalize rtW 3 s w = W0 at *
      go_wp2_with (first | (refine wpList_store_row rfl TN (.tmp 2) (.tmp 28) rfl (w.heap.size + 1) zN rfl rfl TN zN HT.out.res (by kernel_rfl) rfl (by simp [zN, Value.oneCell']) ?_) | (refine wpList_store_row rfl TSp (.tmp 3) (.tmp 29) rfl (w.heap.size + 2) #[.int .i64 3, .int .i64 64] rfl rfl TSp _ HP.out.spot (by kernel_rfl) rfl (by simp [Value.oneCell']) ?_))
      have HQ := Lib.hid (HP.out.putS #[.int .i64 3, .int .i64 64])
      exact bodyPost_ret (v := .tuple #[.agg zN, .agg #[.int .i64 3, .int .i64 64]]) (results_rows rfl _ _ (w.heap.size + 1) (w.heap.size + 2) _ _ rfl rfl HQ.out.res rfl HQ.out.spot rfl) rfl ⟨rfl, HQ.out.up⟩
  rw [hsl, if_neg hl] at hr
  have hl2 : (s.size : Int) ≤ 64 := by omega
  have hk3 : kind = 1 ∨ kind = 2 ∨ kind = 3 := by omega
  clear hk hsl
  rcases hk3 with rfl | rfl | rfl
  · rw [if_pos rfl] at hr
    have HR := Lib.hid hr
    clear hr
    go_enter Tryd.func13, Tryd.ntmps13
    go_upto_region 1 with (fail)
    change Code.wp _ _ _ _ (rtW 1 s w)
    generalize rtW 1 s w = W0 at *
    go_wp2_with fail
    clear c0 c1
    refine (rliteral_any s W0 (by omega)).mono ?_
    rintro e w1 ⟨K, rfl, hK, hb⟩
    have HT1 := Lib.hid (HT.out.on hb)
    have hsz := HT.out.sz
    have hr := HR.out
    generalize joined 3 (s.data.toList.map fun c => one c.toNat) = t at *
    subst hr
    have HK := Lib.hid (hK.imp fun b hb2 _ => Nat.le_trans hsz hb2)
    have HA := Lib.hid (node_all hK)
    have HP := Lib.hid (HT1.out.put (nodeC t K).toArray)
    clear hK hb hsz HR HT
    go_wp2_with (first | (refine wpList_store_row rfl TN (.tmp 2) (.tmp 35) rfl (w.heap.size + 1) (nodeC t K).toArray rfl rfl TN zN HT1.out.res (by kernel_rfl) rfl HA.out ?_) | (refine wpList_store_row rfl TSp (.tmp 3) (.tmp 36) rfl (w.heap.size + 2) #[.int .i64 0, .int .i64 0] rfl rfl TSp _ HP.out.spot (by kernel_rfl) rfl (by simp [Value.oneCell']) ?_))
    have HQ := Lib.hid (HP.out.putS #[.int .i64 0, .int .i64 0])
    exact bodyPost_ret (v := .tuple #[.agg (nodeC t K).toArray, .agg #[.int .i64 0, .int .i64 0]]) (results_rows rfl _ _ (w.heap.size + 1) (w.heap.size + 2) _ _ rfl rfl HQ.out.res rfl HQ.out.spot rfl) rfl (HT1.out.done HK.out)
  · rw [if_neg (by omega), if_pos rfl] at hr
    have HR := Lib.hid hr
    clear hr
    go_enter Tryd.func13, Tryd.ntmps13
    go_upto_region 1 with (fail)
    change Code.wp _ _ _ _ (rtW 2 s w)
    generalize rtW 2 s w = W0 at *
    go_wp2_with fail
    clear c0 c1
    refine (rglob_any s W0 (by omega)).mono ?_
    rintro e w1 hm
    have hr := HR.out
    rcases hg : globL s.data.toList with _ | l
    · rw [hg] at hm hr
      obtain ⟨rfl, hb⟩ := hm
      subst hr
      have HT2 := Lib.hid ((HT.out.on hb).on (below_new w1 (.cells zN TN)))
      clear hb HT HR hg
      simp only [zN]
      go_upto_region 9 with (fail)
      change Code.wp _ _ _ _ (w1.alloc (.cells zN TN))
      generalize w1.alloc (.cells zN TN) = w2 at *
      have c1 := HT2.out.c1
      go_wp2_with fail
      clear c1
      refine (bad_any s.size w2).mono ?_
      rintro e w3 ⟨rfl, hb⟩
      have HT3 := Lib.hid (HT2.out.on hb)
      have HP := Lib.hid (HT3.out.put zN)
      clear hb HT2
      simp only [spotV, spotC]
      go_wp2_with (first | (refine wpList_store_row rfl TN (.tmp 2) (.tmp 48) rfl (w.heap.size + 1) zN rfl rfl TN zN HT3.out.res (by kernel_rfl) rfl (by simp [zN, Value.oneCell']) ?_) | (refine wpList_store_row rfl TSp (.tmp 3) (.tmp 52) rfl (w.heap.size + 2) #[.int .i64 6, .int .i64 s.size] rfl rfl TSp _ HP.out.spot (by kernel_rfl) rfl (by simp [Value.oneCell']) ?_))
      have HQ := Lib.hid (HP.out.putS #[.int .i64 6, .int .i64 s.size])
      exact bodyPost_ret (v := .tuple #[.agg zN, .agg #[.int .i64 6, .int .i64 s.size]]) (results_rows rfl _ _ (w.heap.size + 1) (w.heap.size + 2) _ _ rfl rfl HQ.out.res rfl HQ.out.spot rfl) rfl ⟨rfl, HQ.out.up⟩
    · rw [hg] at hm hr
      obtain ⟨K, rfl, hK, hb⟩ := hm
      simp only [] at hr
      generalize joined 3 l = t at *
      subst hr
      obtain ⟨A, c, rfl⟩ := hK.slice
      have hsz := HT.out.sz
      have hb2 := below_new w1 (.cells #[.int .i64 t.op, .int .u64 (word t.set 0), .int .u64 (word t.set 1), .int .u64 (word t.set 2), .int .u64 (word t.set 3), .slice A t.kids.length c] TN)
      have hN := NodAt.made w1 t (.slice A t.kids.length c)
      have HT2 := Lib.hid ((HT.out.on hb).on hb2)
      have HK := Lib.hid ((hK.imp (q := fun b => w.heap.size + 3 ≤ b) fun b hb2 _ => Nat.le_trans hsz hb2).on hb2)
      have HA := Lib.hid (node_all hK)
      obtain ⟨k0, k1, k2, k3, k4, k5⟩ := hN.cells
      clear hb hb2 hN hK hsz HT HR hg
      simp only [nodeV]
      go_upto_region 9 with (fail)
      generalize w1.alloc (.cells #[.int .i64 t.op, .int .u64 (word t.set 0), .int .u64 (word t.set 1), .int .u64 (word t.set 2), .int .u64 (word t.set 3), .slice A t.kids.length c] TN) = w2 at *
      generalize w1.heap.size = B4 at *
      have HP := Lib.hid (HT2.out.put (nodeC t (.slice A t.kids.length c)).toArray)
      go_wp2_with (first | (refine wpList_store_row rfl TN (.tmp 2) (.tmp 53) rfl (w.heap.size + 1) (nodeC t (.slice A t.kids.length c)).toArray rfl rfl TN zN HT2.out.res (by kernel_rfl) rfl HA.out ?_) | (refine wpList_store_row rfl TSp (.tmp 3) (.tmp 54) rfl (w.heap.size + 2) #[.int .i64 0, .int .i64 0] rfl rfl TSp _ HP.out.spot (by kernel_rfl) rfl (by simp [Value.oneCell']) ?_))
      have HQ := Lib.hid (HP.out.putS #[.int .i64 0, .int .i64 0])
      exact bodyPost_ret (v := .tuple #[.agg (nodeC t (.slice A t.kids.length c)).toArray, .agg #[.int .i64 0, .int .i64 0]]) (results_rows rfl _ _ (w.heap.size + 1) (w.heap.size + 2) _ _ rfl rfl HQ.out.res rfl HQ.out.spot rfl) rfl (HT2.out.done HK.out)
  · rw [if_neg (by omega), if_neg (by omega)] at hr
    have HR := Lib.hid hr
    clear hr
    go_enter Tryd.func13, Tryd.ntmps13
    go_upto_region 1 with (fail)
    change Code.wp _ _ _ _ (rtW 3 s w)
    generalize rtW 3 s w = W0 at *
    go_wp2_with fail
    clear c0 c1
    refine (ralts_any s W0 (by omega)).mono ?_
    rintro e w1 hm
    have hr := HR.out
    have hsl : s.data.toList.length = s.size := rfl
    rcases hg : alts (3 * s.size + 3) s.data.toList 0 [] with ⟨t, n⟩ | k
    · rw [hg] at hm hr
      obtain ⟨K, rfl, hK, hb⟩ := hm
      simp only [] at hr
      have hpos := (read_pos s.data.toList _).1 _ _ _ _ hg (by omega)
      obtain ⟨A, c, rfl⟩ := hK.slice
      have hsz := HT.out.sz
      have hb2 := below_new w1 (.cells #[.int .i64 t.op, .int .u64 (word t.set 0), .int .u64 (word t.set 1), .int .u64 (word t.set 2), .int .u64 (word t.set 3), .slice A t.kids.length c] TN)
      have hN := NodAt.made w1 t (.slice A t.kids.length c)
      have HT2 := Lib.hid ((HT.out.on hb).on hb2)
      have HK := Lib.hid ((hK.imp (q := fun b => w.heap.size + 3 ≤ b) fun b hb2 _ => Nat.le_trans hsz hb2).on hb2)
      have HA := Lib.hid (node_all hK)
      have HR2 := Lib.hid hr
      obtain ⟨k0, k1, k2, k3, k4, k5⟩ := hN.cells
      have hnl : n ≤ s.size := hpos.2.1
      clear hb hb2 hN hK hsz HT HR hg hr hpos hsl
      simp only [nodeV]
      go_upto_region 13 with (fail)
      generalize w1.alloc (.cells #[.int .i64 t.op, .int .u64 (word t.set 0), .int .u64 (word t.set 1), .int .u64 (word t.set 2), .int .u64 (word t.set 3), .slice A t.kids.length c] TN) = w2 at *
      generalize w1.heap.size = B4 at *
      have c1 := HT2.out.c1
      by_cases hlt : n < s.size
      · have hr := HR2.out
        rw [if_pos hlt] at hr
        subst hr
        have hlt2 : (n : Int) < s.size := by omega
        clear HR2 k0 k1 k2 k3 k4 k5
        go_wp2_with fail
        clear c1
        refine (bad_any n w2).mono ?_
        rintro e w3 ⟨rfl, hb⟩
        have HT3 := Lib.hid (HT2.out.on hb)
        have HP := Lib.hid (HT3.out.put zN)
        clear hb HT2
        simp only [spotV, spotC]
        go_wp2_with (first | (refine wpList_store_row rfl TN (.tmp 2) (.tmp 71) rfl (w.heap.size + 1) zN rfl rfl TN zN HT3.out.res (by kernel_rfl) rfl (by simp [zN, Value.oneCell']) ?_) | (refine wpList_store_row rfl TSp (.tmp 3) (.tmp 73) rfl (w.heap.size + 2) #[.int .i64 6, .int .i64 n] rfl rfl TSp _ HP.out.spot (by kernel_rfl) rfl (by simp [Value.oneCell']) ?_))
        have HQ := Lib.hid (HP.out.putS #[.int .i64 6, .int .i64 n])
        exact bodyPost_ret (v := .tuple #[.agg zN, .agg #[.int .i64 6, .int .i64 n]]) (results_rows rfl _ _ (w.heap.size + 1) (w.heap.size + 2) _ _ rfl rfl HQ.out.res rfl HQ.out.spot rfl) rfl ⟨rfl, HQ.out.up⟩
      · have hr := HR2.out
        rw [if_neg hlt] at hr
        subst hr
        have hlt2 : (s.size : Int) ≤ n := by omega
        have HP := Lib.hid (HT2.out.put (nodeC t (.slice A t.kids.length c)).toArray)
        clear HR2
        go_wp2_with (first | (refine wpList_store_row rfl TN (.tmp 2) (.tmp 74) rfl (w.heap.size + 1) (nodeC t (.slice A t.kids.length c)).toArray rfl rfl TN zN HT2.out.res (by kernel_rfl) rfl HA.out ?_) | (refine wpList_store_row rfl TSp (.tmp 3) (.tmp 75) rfl (w.heap.size + 2) #[.int .i64 0, .int .i64 0] rfl rfl TSp _ HP.out.spot (by kernel_rfl) rfl (by simp [Value.oneCell']) ?_))
        have HQ := Lib.hid (HP.out.putS #[.int .i64 0, .int .i64 0])
        exact bodyPost_ret (v := .tuple #[.agg (nodeC t (.slice A t.kids.length c)).toArray, .agg #[.int .i64 0, .int .i64 0]]) (results_rows rfl _ _ (w.heap.size + 1) (w.heap.size + 2) _ _ rfl rfl HQ.out.res rfl HQ.out.spot rfl) rfl (HT2.out.done HK.out)
    · rw [hg] at hm hr
      obtain ⟨rfl, hb⟩ := hm
      simp only [] at hr
      subst hr
      have HT2 := Lib.hid ((HT.out.on hb).on (below_new w1 (.cells zN TN)))
      clear hb HT HR hg hsl
      simp only [zN]
      go_upto_region 13 with (fail)
      change Code.wp _ _ _ _ (w1.alloc (.cells zN TN))
      generalize w1.alloc (.cells zN TN) = w2 at *
      go_wp2_with fail
      refine (bad_any k w2).mono ?_
      rintro e w3 ⟨rfl, hb⟩
      have HT3 := Lib.hid (HT2.out.on hb)
      have HP := Lib.hid (HT3.out.put zN)
      clear hb HT2
      simp only [spotV, spotC]
      go_wp2_with (first | (refine wpList_store_row rfl TN (.tmp 2) (.tmp 71) rfl (w.heap.size + 1) zN rfl rfl TN zN HT3.out.res (by kernel_rfl) rfl (by simp [zN, Value.oneCell']) ?_) | (refine wpList_store_row rfl TSp (.tmp 3) (.tmp 73) rfl (w.heap.size + 2) #[.int .i64 6, .int .i64 k] rfl rfl TSp _ HP.out.spot (by kernel_rfl) rfl (by simp [Value.oneCell']) ?_))
      have HQ := Lib.hid (HP.out.putS #[.int .i64 6, .int .i64 k])
      exact bodyPost_ret (v := .tuple #[.agg zN, .agg #[.int .i64 6, .int .i64 k]]) (results_rows rfl _ _ (w.heap.size + 1) (w.heap.size + 2) _ _ rfl rfl HQ.out.res rfl HQ.out.spot rfl) rfl ⟨rfl, HQ.out.up⟩
end Go.Proofs.YtpiflikblpfgoaaDoor
