/- The document's Close. -/
import Derived.Test.YtlddeagolhdieaaHubRefOps
import Derived.Laws.CopyOwn
namespace Go.Proofs.Ytlddeagolhdieaa
open Go.RowKit Go.MuLone Go.Conc

set_option maxRecDepth 100000
set_option maxHeartbeats 4000000
theorem results_rt {fn : Func} {p1 p2 : Tmp} {t1 : TypeId} (h : fn.results = #[.cell p1 t1, .tmp p2]) (tmps : Array Value) (W : World) (b : Nat) (X Y : Value)
    (h1 : tmps.getD p1 undef = .pointer (some ⟨b, 0, none⟩)) (h2 : tmps.getD p2 undef = Y) (l1 : (loadVar t1 ⟨b, 0, none⟩).run Try.prog W = .ok X W) :
    (results fn tmps).run Try.prog W = .ok (.tuple #[X, Y]) W := by
  have h1' : tmps[p1]?.getD undef = .pointer (some ⟨b, 0, none⟩) := by simpa using h1
  have h2' : tmps[p2]?.getD undef = Y := by simpa using h2
  simp [results, h, h1', h2', asAddr, l1]
def docZ : Array Value := #[.slice none 0 0, .bool false, .slice none 0 0, .bool false, .slice none 0 0, .bool false, .slice none 0 0, .bool false, .slice none 0 0, .bool false, .slice none 0 0, .bool false, .slice none 0 0, .bool false, .slice none 0 0, .bool false]
theorem docC_one (D : Nat → DT) : (docC D).all (·.oneCell') = true := by rw [docC_lit]; simp [Value.oneCell']
theorem info_doc (D : Nat → DT) : (Try.prog.info? TRh).map (·.size) = some (docC D).size := by rw [docC_size]; kernel_rfl
theorem load_doc (W : World) (b : Nat) (D : Nat → DT) (h : W.heap[b]? = some (.cells (docC D) TRh (0, 0))) : (loadVar TRh ⟨b, 0, none⟩).run Try.prog W = .ok (.agg (docC D)) W := run_loadVar_row W b TRh TRh (docC D) (0, 0) _ h Try.underlying32 rfl (info_doc D)
/-- the two boxes of a document's call -/
structure Two (w W : World) (X Y : Array Value) : Prop where
  x : W.heap[w.heap.size]? = some (.cells X TRh (0, 0))
  y : W.heap[w.heap.size + 1]? = some (.cells Y TRh (0, 0))
  up : Below w.heap.size w W
theorem two_start (w : World) (X Y : Array Value) : Two w ((w.alloc (.cells X TRh)).alloc (.cells Y TRh)) X Y := by
  have h2 := heap_alloc_new (w.alloc (.cells X TRh)) (.cells Y TRh)
  have b2 := below_new (w.alloc (.cells X TRh)) (.cells Y TRh)
  rw [World.size_alloc] at h2 b2
  exact ⟨(b2.block _ (by omega)).trans (heap_alloc_new w _), h2, (below_new w _).trans (b2.mono (by omega))⟩
theorem Two.row {w W : World} {X Y Z : Array Value} (h : Two w W X Y) : Two w (W.setRow (w.heap.size + 1) Z) X Z :=
  ⟨(setRow_other _ _ _ _ (by omega)).trans h.x, setRow_heap _ _ _ _ _ _ h.y, below_setRow h.up (by omega) _⟩
theorem Two.cell {w W : World} {X Y : Array Value} (h : Two w W X Y) (j : Nat) (v : Value) : Two w (W.setCell ⟨w.heap.size, j, none⟩ v) (X.setIfInBounds j v) Y := by
  have o := off_set W w.heap.size j v
  exact ⟨heap_setCell_same _ _ _ _ _ _ h.x, (o.block _ (lt_of_block h.y) (by simp)).trans h.y, h.up.trans (o.below h.up.size (fun k hk => by simp only [List.mem_singleton] at hk; omega))⟩
def closeE (D : Nat → DT) (talk : Int) : Int := if 0 ≤ talk ∧ talk < 8 then (if (D talk.toNat).cl then 9 else 0) else 2
def closeD (D : Nat → DT) (talk : Int) : Nat → DT := if 0 ≤ talk ∧ talk < 8 then (if (D talk.toNat).cl then D else updD D talk.toNat { D talk.toNat with cl := true }) else D
theorem rclose_any (D : Nat → DT) (talk : Int) (w : World) : Calls Try.prog 14 #[.agg (docC D), .int .i64 talk] w fun e w' => e = .returned (.tuple #[.agg (docC (closeD D talk)), .int .i64 (closeE D talk)]) ∧ Below w.heap.size w w' := by
  have HS := Lib.hid (two_start w (docC D) docZ)
  by_cases ht : 0 ≤ talk ∧ talk < 8
  · obtain ⟨t, rfl⟩ : ∃ t : Nat, talk = t := ⟨talk.toNat, by omega⟩
    have ht8 : t < 8 := by omega
    have h0 : (0 : Int) ≤ t := by omega
    have h1 : (t : Int) < 8 := by omega
    have k1 := cell_of_row _ _ (t * 2 + 1) _ _ _ HS.out.x
    rw [(docC_at D ht8).2] at k1
    have f1 : ((w.alloc (.cells (docC D) TRh)).alloc (.cells docZ TRh)).frozen? ⟨w.heap.size, t * 2 + 1, none⟩ = false := frozen_of_row _ _ _ _ _ HS.out.x
    cases hcl : (D t).cl with
    | true =>
      have HE : Hid (closeE D t = 9 ∧ closeD D t = D) := Lib.hid ⟨by unfold closeE; rw [if_pos ⟨h0, h1⟩]; simp [hcl], by unfold closeD; rw [if_pos ⟨h0, h1⟩]; simp [hcl]⟩
      rw [HE.out.1, HE.out.2]
      rw [hcl] at k1
      clear hcl
      go_enter Try.func14, Try.ntmps14
      go_wp2_with fail
      change Calls _ _ _ ((w.alloc (.cells (docC D) TRh)).alloc (.cells docZ TRh)) _
      generalize (w.alloc (.cells (docC D) TRh)).alloc (.cells docZ TRh) = W at *
      refine (in_yes t W h0 h1).mono ?_
      rintro e w2 ⟨rfl, rfl⟩
      go_wp2_with (first | (refine wpList_load_row rfl TRh (.tmp 2) rfl w.heap.size rfl TRh _ (0, 0) _ HS.out.x Try.underlying32 rfl (info_doc D) ?_) | (refine wpList_store_row rfl TRh (.tmp 4) (.tmp 15) rfl (w.heap.size + 1) (docC D) rfl rfl TRh docZ HS.out.y (info_doc D) (by rw [docC_size]; rfl) (docC_one D) ?_))
      have HX := Lib.hid (HS.out.row (Z := docC D))
      exact bodyPost_ret (results_rt rfl _ _ (w.heap.size + 1) _ _ rfl rfl (load_doc _ _ D HX.out.y)) rfl ⟨rfl, HX.out.up⟩
    | false =>
      have HE : Hid (closeE D t = 0 ∧ closeD D t = updD D t { D t with cl := true }) := Lib.hid ⟨by unfold closeE; rw [if_pos ⟨h0, h1⟩]; simp [hcl], by unfold closeD; rw [if_pos ⟨h0, h1⟩]; simp [hcl]⟩
      rw [HE.out.1, HE.out.2]
      rw [hcl] at k1
      clear hcl
      obtain ⟨D', hD'⟩ : ∃ D', updD D t { D t with cl := true } = D' := ⟨_, rfl⟩
      have HC := Lib.hid (docC_cl D ht8)
      rw [hD'] at HC ⊢
      clear hD'
      go_enter Try.func14, Try.ntmps14
      go_wp2_with fail
      change Calls _ _ _ ((w.alloc (.cells (docC D) TRh)).alloc (.cells docZ TRh)) _
      generalize (w.alloc (.cells (docC D) TRh)).alloc (.cells docZ TRh) = W at *
      refine (in_yes t W h0 h1).mono ?_
      rintro e w2 ⟨rfl, rfl⟩
      have HS2 := Lib.hid (HS.out.cell (t * 2 + 1) (.bool true))
      rw [HC.out] at HS2
      go_wp2_with (first | (refine wpList_load_row rfl TRh (.tmp 2) rfl w.heap.size rfl TRh _ (0, 0) _ HS2.out.x Try.underlying32 rfl (info_doc D') ?_) | (refine wpList_store_row rfl TRh (.tmp 4) (.tmp 20) rfl (w.heap.size + 1) (docC D') rfl rfl TRh docZ HS2.out.y (info_doc D') (by rw [docC_size]; rfl) (docC_one D') ?_))
      have HX := Lib.hid (HS2.out.row (Z := docC D'))
      exact bodyPost_ret (results_rt rfl _ _ (w.heap.size + 1) _ _ rfl rfl (load_doc _ _ D' HX.out.y)) rfl ⟨rfl, HX.out.up⟩
  · have HE : Hid (closeE D talk = 2 ∧ closeD D talk = D) := Lib.hid ⟨by unfold closeE; rw [if_neg ht], by unfold closeD; rw [if_neg ht]⟩
    rw [HE.out.1, HE.out.2]
    have ht' : talk < 0 ∨ 8 ≤ talk := by omega
    have HT := Lib.hid ht'
    clear ht ht'
    go_enter Try.func14, Try.ntmps14
    go_wp2_with fail
    change Calls _ _ _ ((w.alloc (.cells (docC D) TRh)).alloc (.cells docZ TRh)) _
    generalize (w.alloc (.cells (docC D) TRh)).alloc (.cells docZ TRh) = W at *
    refine (in_no talk W HT.out).mono ?_
    rintro e w2 ⟨rfl, rfl⟩
    go_wp2_with (first | (refine wpList_load_row rfl TRh (.tmp 2) rfl w.heap.size rfl TRh _ (0, 0) _ HS.out.x Try.underlying32 rfl (info_doc D) ?_) | (refine wpList_store_row rfl TRh (.tmp 4) (.tmp 9) rfl (w.heap.size + 1) (docC D) rfl rfl TRh docZ HS.out.y (info_doc D) (by rw [docC_size]; rfl) (docC_one D) ?_))
    have HX := Lib.hid (HS.out.row (Z := docC D))
    exact bodyPost_ret (results_rt rfl _ _ (w.heap.size + 1) _ _ rfl rfl (load_doc _ _ D HX.out.y)) rfl ⟨rfl, HX.out.up⟩
end Go.Proofs.Ytlddeagolhdieaa
