/- The document's example is written and read. -/
import Derived.Test.YtbapifbahhjfgaaMsgEx
namespace Go.Proofs.Ytbapifbahhjfgaa
open Go.RowKit

theorem ex_form_len : exMsg.form.length = 133 := by rfl
theorem ex_all : ∃ s, exMsg.out = .tuple #[.string s, .int .i64 0] ∧ s.size = 133 ∧ (decode s).1.Eqv exMsg ∧ (decode s).2 = (0, 0) ∧ s = bs exMsg.form := by
  refine ⟨bs exMsg.form, ?_, ?_, (decode_form exMsg exMsg_check (by decide)).1, (decode_form exMsg exMsg_check (by decide)).2, rfl⟩
  · unfold Msg.out; rw [if_pos exMsg_check]
  · rw [bs_sz]; exact ex_form_len
theorem ex_earg (w : World) (B : Nat) (A : Option Addr) : EArg w B A exMsg.ents := fun k hk => absurd hk (Nat.not_lt_zero _)

theorem cell_block {w w' : World} {g : Nat} {o : Obj} (h : w.heap[g]? = some o) (hb : Below w.heap.size w w') : w'.heap[g]? = some o := (hb.block g (lt_of_block h)).trans h

/-- the memory in which a Decode's two answers have been laid -/
def two (w : World) (cs : Array Value) (a b : Int) : World := (((w.alloc (.cells (zeroMsg.cells A0).toArray TM)).alloc (.cells #[.int .i64 0, .int .i64 0] TSp)).setRow w.heap.size cs).setRow (w.heap.size + 1) #[.int .i64 a, .int .i64 b]
theorem two_facts (w : World) (cs : Array Value) (a b : Int) : (two w cs a b).heap[w.heap.size]? = some (.cells cs TM (0, 0)) ∧ (two w cs a b).heap[w.heap.size + 1]? = some (.cells #[.int .i64 a, .int .i64 b] TSp (0, 0)) ∧ Below w.heap.size w (two w cs a b) := by
  have hM0 := heap_alloc_new w (.cells (zeroMsg.cells A0).toArray TM)
  have hM := (show MB (w.alloc (.cells (zeroMsg.cells A0).toArray TM)) w.heap.size zeroMsg A0 from hM0).below (below_new _ (.cells #[.int .i64 0, .int .i64 0] TSp))
  have hS : ((w.alloc (.cells (zeroMsg.cells A0).toArray TM)).alloc (.cells #[.int .i64 0, .int .i64 0] TSp)).heap[w.heap.size + 1]? = some (.cells #[.int .i64 0, .int .i64 0] TSp (0, 0)) := by
    have := heap_alloc_new (w.alloc (.cells (zeroMsg.cells A0).toArray TM)) (.cells #[.int .i64 0, .int .i64 0] TSp)
    rwa [World.size_alloc] at this
  have hB : Below w.heap.size w ((w.alloc (.cells (zeroMsg.cells A0).toArray TM)).alloc (.cells #[.int .i64 0, .int .i64 0] TSp)) := ((Below.refl _ w).alloc (Nat.le_refl _) _).alloc (by simp) _
  exact ⟨(setRow_other _ _ _ _ (by omega)).trans (setRow_heap _ _ _ _ _ _ hM), setRow_heap _ _ _ _ _ _ ((setRow_other _ _ _ _ (by omega)).trans hS), hB.trans ((below_setRow _ _ _ (Nat.le_refl _)).trans (below_setRow _ _ _ (by omega)))⟩

set_option maxRecDepth 100000 in
set_option maxHeartbeats 8000000 in
theorem works_any (w : World) :
    Calls Try.prog 8 #[] w fun e w' => e = .returned (.bool true) ∧ Below w.heap.size w w' := by
  go_enter Try.func8, Try.ntmps8
  go_wp2_with fail
  refine (example_any w).mono ?_
  rintro e w1 ⟨rfl, hb1⟩
  obtain ⟨s, hout, hs, hx, hsp, -⟩ := ex_all
  have HB1 := Lib.hid hb1; have HX := Lib.hid hx
  clear hb1 hx
  go_wp2_with fail
  have hE := encode_any exMsg none 0 w1 (ex_earg _ _ _) (by decide) (by decide) (by decide)
  rw [hout] at hE
  refine hE.mono ?_
  rintro e w2 ⟨rfl, hb2⟩
  have HB2 := Lib.hid (below_then HB1.out hb2 (Nat.le_refl _))
  clear hb2 hE hout HB1
  go_wp2_with fail
  have hD := decode_any s w2 (by omega)
  rw [hsp] at hD
  refine hD.mono ?_
  rintro e w3 ⟨A, c, rfl, he, hb3⟩
  have HB3 := Lib.hid (below_then HB2.out hb3 (Nat.le_refl _)); have HE := Lib.hid he
  clear hb3 hD he HB2 hsp
  generalize (decode s).1 = x at *
  have hM0 := heap_alloc_new w3 (.cells (zeroMsg.cells A0).toArray TM)
  have hM := (show MB (w3.alloc (.cells (zeroMsg.cells A0).toArray TM)) w3.heap.size zeroMsg A0 from hM0).below (below_new _ (.cells #[.int .i64 0, .int .i64 0] TSp))
  have hS : ((w3.alloc (.cells (zeroMsg.cells A0).toArray TM)).alloc (.cells #[.int .i64 0, .int .i64 0] TSp)).heap[w3.heap.size + 1]? = some (.cells #[.int .i64 0, .int .i64 0] TSp (0, 0)) := by
    have := heap_alloc_new (w3.alloc (.cells (zeroMsg.cells A0).toArray TM)) (.cells #[.int .i64 0, .int .i64 0] TSp)
    rwa [World.size_alloc] at this
  have hB : Below w3.heap.size w3 ((w3.alloc (.cells (zeroMsg.cells A0).toArray TM)).alloc (.cells #[.int .i64 0, .int .i64 0] TSp)) := ((Below.refl _ w3).alloc (Nat.le_refl _) _).alloc (by simp) _
  have HM := Lib.hid hM; have HS := Lib.hid hS; have HB := Lib.hid hB
  clear hM0 hM hS hB
  go_wp2_with (first | (refine wpList_store_row rfl TM (.tmp 3) (.tmp 13) rfl w3.heap.size (x.cells (.slice A x.ents.length c)).toArray rfl rfl TM (zeroMsg.cells A0).toArray HM.out (by kernel_rfl) rfl (cells_one x _ _ _) ?_) | (refine wpList_store_row rfl TSp (.tmp 4) (.tmp 14) rfl (w3.heap.size + 1) #[.int .i64 0, .int .i64 0] rfl rfl TSp #[.int .i64 0, .int .i64 0] ((setRow_other _ _ _ _ (by omega)).trans HS.out) (by kernel_rfl) rfl (spot_one 0 0) ?_))
  simp only [Act.put]
  change Code.wp _ _ _ _ (two w3 (x.cells (.slice A x.ents.length c)).toArray 0 0)
  obtain ⟨hM4, hS4, hB4⟩ := two_facts w3 (x.cells (.slice A x.ents.length c)).toArray 0 0
  have HE4 := Lib.hid (HE.out.on hB4); have HB4 := Lib.hid (below_then HB3.out hB4 (Nat.le_refl _))
  have HM4 := Lib.hid hM4; have HS4 := Lib.hid hS4
  have HXL : Hid (x.ents.length ≤ 9223372036854775807) := Lib.hid (by rw [HX.out.ents]; decide)
  clear HM HS HB HE HB3 hM4 hS4 hB4
  generalize two w3 (x.cells (.slice A x.ents.length c)).toArray 0 0 = W4 at *
  generalize w3.heap.size = g at *
  refine wp_region_any (by kernel_rfl) ?_
  change wpAny _ _ _ _ _ _ _ W4.drew
  refine wpAny_of_held (S := (fun w' => w'.heap[g]? = some (.cells (x.cells (.slice A x.ents.length c)).toArray TM (0, 0)) ∧ w'.heap[g + 1]? = some (.cells #[.int .i64 0, .int .i64 0] TSp (0, 0)) ∧ EArg w' w'.heap.size A x.ents)) _ _ _ _ ?_
  have hHeld := (show W4.drew.heap[g]? = some (.cells (x.cells (.slice A x.ents.length c)).toArray TM (0, 0)) ∧ W4.drew.heap[g + 1]? = some (.cells #[.int .i64 0, .int .i64 0] TSp (0, 0)) ∧ EArg W4.drew W4.drew.heap.size A x.ents from ⟨HM4.out, HS4.out, HE4.out⟩)
  refine wpAnyH_take (i := 0) (v := ?_) (by simp only [List.getElem?_toArray, List.getElem?_cons_succ, List.getElem?_cons_zero]; rfl) (by kernel_rfl) (by kernel_rfl) (by kernel_rfl) (by exact fun _ _ _ h => h) (Or.inl ⟨by rfl, ?_⟩) (by assumption) ?_
  rotate_left
  · (intro w hSw; (try clear hHeld); (try dsimp only at hSw); (try go_split_ands); go_simp)
    try with_reducible rfl
  try simp only [Act.put, List.setIfInBounds_toArray, List.set_cons_zero, List.set_cons_succ]
  refine wpAnyH_take (i := 1) (v := ?_) (by simp only [List.getElem?_toArray, List.getElem?_cons_succ, List.getElem?_cons_zero]; rfl) (by kernel_rfl) (by kernel_rfl) (by kernel_rfl) (by exact fun _ _ _ h => h) (Or.inl ⟨by rfl, ?_⟩) (by assumption) ?_
  rotate_left
  · (intro w hSw; (try clear hHeld); (try dsimp only at hSw); (try go_split_ands); go_simp)
    try with_reducible rfl
  try simp only [Act.put, List.setIfInBounds_toArray, List.set_cons_zero, List.set_cons_succ]
  refine wpAnyH_take (i := 2) (v := ?_) (by simp only [List.getElem?_toArray, List.getElem?_cons_succ, List.getElem?_cons_zero]; rfl) (by kernel_rfl) (by kernel_rfl) (by kernel_rfl) (by exact fun _ _ _ h => h) (Or.inl ⟨by rfl, ?_⟩) (by assumption) ?_
  rotate_left
  · (intro w hSw; (try clear hHeld); (try dsimp only at hSw); (try go_split_ands); go_simp)
    try with_reducible rfl
  try simp only [Act.put, List.setIfInBounds_toArray, List.set_cons_zero, List.set_cons_succ]
  refine wpAnyH_take (i := 3) (v := ?_) (by simp only [List.getElem?_toArray, List.getElem?_cons_succ, List.getElem?_cons_zero]; rfl) (by kernel_rfl) (by kernel_rfl) (by kernel_rfl) (by exact fun _ _ _ h => h) (Or.inl ⟨by rfl, ?_⟩) (by assumption) ?_
  rotate_left
  · (intro w hSw; (try clear hHeld); (try dsimp only at hSw); (try go_split_ands); go_simp)
    try with_reducible rfl
  try simp only [Act.put, List.setIfInBounds_toArray, List.set_cons_zero, List.set_cons_succ]
  refine wpAnyH_take (i := 4) (v := ?_) (by simp only [List.getElem?_toArray, List.getElem?_cons_succ, List.getElem?_cons_zero]; rfl) (by kernel_rfl) (by kernel_rfl) (by kernel_rfl) (by exact fun _ _ _ h => h) (Or.inl ⟨by rfl, ?_⟩) (by assumption) ?_
  rotate_left
  · (intro w hSw; (try clear hHeld); (try dsimp only at hSw); (try go_split_ands); go_simp)
    try with_reducible rfl
  try simp only [Act.put, List.setIfInBounds_toArray, List.set_cons_zero, List.set_cons_succ]
  refine wpAnyH_take (i := 5) (v := ?_) (by simp only [List.getElem?_toArray, List.getElem?_cons_succ, List.getElem?_cons_zero]; rfl) (by kernel_rfl) (by kernel_rfl) (by kernel_rfl) (by exact fun _ _ _ h => h) (Or.inl ⟨by rfl, ?_⟩) (by assumption) ?_
  rotate_left
  · (intro w hSw; (try clear hHeld); (try dsimp only at hSw); (try go_split_ands); go_simp)
    try with_reducible rfl
  try simp only [Act.put, List.setIfInBounds_toArray, List.set_cons_zero, List.set_cons_succ]
  refine wpAnyH_take (i := 6) (v := ?_) (by simp only [List.getElem?_toArray, List.getElem?_cons_succ, List.getElem?_cons_zero]; rfl) (by kernel_rfl) (by kernel_rfl) (by kernel_rfl) (by exact fun _ _ _ h => h) (Or.inl ⟨by rfl, ?_⟩) (by assumption) ?_
  rotate_left
  · (intro w hSw; (try clear hHeld); (try dsimp only at hSw); (try go_split_ands); go_simp)
    try with_reducible rfl
  try simp only [Act.put, List.setIfInBounds_toArray, List.set_cons_zero, List.set_cons_succ]
  refine wpAnyH_take (i := 7) (v := ?_) (by simp only [List.getElem?_toArray, List.getElem?_cons_succ, List.getElem?_cons_zero]; rfl) (by kernel_rfl) (by kernel_rfl) (by kernel_rfl) (by exact fun _ _ _ h => h) (Or.inl ⟨by rfl, ?_⟩) (by assumption) ?_
  rotate_left
  · (intro w hSw; (try clear hHeld); (try dsimp only at hSw); (try go_split_ands); go_simp)
    try with_reducible rfl
  try simp only [Act.put, List.setIfInBounds_toArray, List.set_cons_zero, List.set_cons_succ]
  refine wpAnyH_take (i := 8) (v := .agg #[.int .i64 0, .int .i64 0]) (by simp only [List.getElem?_toArray, List.getElem?_cons_succ, List.getElem?_cons_zero]; rfl) (by kernel_rfl) (by kernel_rfl) (by kernel_rfl) (by exact fun _ _ _ h => h) (Or.inl ⟨by rfl, ?_⟩) (by assumption) ?_
  · (intro w hSw; exact run_load_row TSp (.tmp 4) rfl (g + 1) rfl TSp _ (0, 0) _ hSw.2.1 Try.underlying30 rfl (by kernel_rfl))
  try simp only [Act.put, List.setIfInBounds_toArray, List.set_cons_zero, List.set_cons_succ]
  refine wpAnyH_take (i := 9) (v := ?_) (by simp only [List.getElem?_toArray, List.getElem?_cons_succ, List.getElem?_cons_zero]; rfl) (by kernel_rfl) (by kernel_rfl) (by kernel_rfl) (by exact fun _ _ _ h => h) (Or.inl ⟨by rfl, ?_⟩) (by assumption) ?_
  rotate_left
  · (intro w hSw; (try clear hHeld); (try dsimp only at hSw); (try go_split_ands); go_simp)
    try with_reducible rfl
  try simp only [Act.put, List.setIfInBounds_toArray, List.set_cons_zero, List.set_cons_succ]
  refine wpAnyH_take (i := 10) (v := ?_) (by simp only [List.getElem?_toArray, List.getElem?_cons_succ, List.getElem?_cons_zero]; rfl) (by kernel_rfl) (by kernel_rfl) (by kernel_rfl) (by exact fun _ _ _ h => h) (Or.inl ⟨by rfl, ?_⟩) (by assumption) ?_
  rotate_left
  · (intro w hSw; (try clear hHeld); (try dsimp only at hSw); (try go_split_ands); go_simp)
    try with_reducible rfl
  try simp only [Act.put, List.setIfInBounds_toArray, List.set_cons_zero, List.set_cons_succ]
  refine wpAnyH_take (i := 11) (v := ?_) (by simp only [List.getElem?_toArray, List.getElem?_cons_succ, List.getElem?_cons_zero]; rfl) (by kernel_rfl) (by kernel_rfl) (by kernel_rfl) (by exact fun _ _ _ h => h) (Or.inl ⟨by rfl, ?_⟩) (by assumption) ?_
  rotate_left
  · (intro w hSw; (try clear hHeld); (try dsimp only at hSw); (try go_split_ands); go_simp)
    try with_reducible rfl
  try simp only [Act.put, List.setIfInBounds_toArray, List.set_cons_zero, List.set_cons_succ]
  refine wpAnyH_take (i := 12) (v := ?_) (by simp only [List.getElem?_toArray, List.getElem?_cons_succ, List.getElem?_cons_zero]; rfl) (by kernel_rfl) (by kernel_rfl) (by kernel_rfl) (by exact fun _ _ _ h => h) (Or.inl ⟨by rfl, ?_⟩) (by assumption) ?_
  rotate_left
  · (intro w hSw; (try clear hHeld); (try dsimp only at hSw); (try go_split_ands); go_simp)
    try with_reducible rfl
  try simp only [Act.put, List.setIfInBounds_toArray, List.set_cons_zero, List.set_cons_succ]
  refine wpAnyH_take (i := 13) (v := .agg (x.cells (.slice A x.ents.length c)).toArray) (by simp only [List.getElem?_toArray, List.getElem?_cons_succ, List.getElem?_cons_zero]; rfl) (by kernel_rfl) (by kernel_rfl) (by kernel_rfl) (by exact fun _ _ _ h => h) (Or.inl ⟨by rfl, ?_⟩) (by assumption) ?_
  · (intro w hSw; exact run_load_row TM (.tmp 3) rfl g rfl TM _ (0, 0) _ hSw.1 Try.underlying28 rfl (by kernel_rfl))
  try simp only [Act.put, List.setIfInBounds_toArray, List.set_cons_zero, List.set_cons_succ]
  refine wpAnyH_ready (rs := [14]) (by kernel_rfl) (by simp) ?_
  refine AllReadyH.cons (by simp only [List.getElem?_toArray, List.getElem?_cons_succ, List.getElem?_cons_zero]; rfl) (fun K hK => ?_) AllReadyH.nil
  go_simp
  refine (example_any _).mono ?_
  rintro e w5 ⟨rfl, hb5⟩
  have HM5 := Lib.hid (cell_block (w := W4.drew) HM4.out hb5)
  have HS5 := Lib.hid (cell_block (w := W4.drew) HS4.out hb5)
  have HE5 := Lib.hid (EArg.on (w := W4.drew) HE4.out hb5)
  have HB5 := Lib.hid (below_then (Below.drew HB4.out) hb5 (Nat.le_refl _))
  clear hb5 HM4 HS4 HE4 HB4
  simp only []
  refine hK.out _ _ ⟨HM5.out, HS5.out, HE5.out⟩ (fun hHeld => ?_)
  clear hK K
  try simp only [Act.put, List.setIfInBounds_toArray, List.set_cons_zero, List.set_cons_succ]
  refine wpAnyH_ready (rs := [15]) (by kernel_rfl) (by simp) ?_
  refine AllReadyH.cons (by simp only [List.getElem?_toArray, List.getElem?_cons_succ, List.getElem?_cons_zero]; rfl) (fun K hK => ?_) AllReadyH.nil
  go_simp
  refine (same_any x exMsg A none c 0 w5 HE5.out (ex_earg _ _ _) HXL.out (by decide)).mono ?_
  rintro e w6 ⟨hsame, hb6⟩
  have hsame : e = .returned (.bool true) := hsame.elim And.left (fun h => absurd HX.out h.2)
  subst hsame
  have HM6 := Lib.hid (cell_block HM5.out hb6)
  have HS6 := Lib.hid (cell_block HS5.out hb6)
  have HE6 := Lib.hid (EArg.on HE5.out hb6)
  have HB6 := Lib.hid (below_then HB5.out hb6 (Nat.le_refl _))
  clear hb6 HM5 HS5 HE5 HB5
  simp only []
  refine hK.out _ _ ⟨HM6.out, HS6.out, HE6.out⟩ (fun hHeld => ?_)
  clear hK K
  try simp only [Act.put, List.setIfInBounds_toArray, List.set_cons_zero, List.set_cons_succ]
  refine wpAnyH_take (i := 16) (v := ?_) (by simp only [List.getElem?_toArray, List.getElem?_cons_succ, List.getElem?_cons_zero]; rfl) (by kernel_rfl) (by kernel_rfl) (by kernel_rfl) (by exact fun _ _ _ h => h) (Or.inl ⟨by rfl, ?_⟩) (by assumption) ?_
  rotate_left
  · (intro w hSw; (try clear hHeld); (try dsimp only at hSw); (try go_split_ands); go_simp)
    try with_reducible rfl
  try simp only [Act.put, List.setIfInBounds_toArray, List.set_cons_zero, List.set_cons_succ]
  refine wpAnyH_take (i := 17) (v := ?_) (by simp only [List.getElem?_toArray, List.getElem?_cons_succ, List.getElem?_cons_zero]; rfl) (by kernel_rfl) (by kernel_rfl) (by kernel_rfl) (by exact fun _ _ _ h => h) (Or.inl ⟨by rfl, ?_⟩) (by assumption) ?_
  rotate_left
  · (intro w hSw; (try clear hHeld); (try dsimp only at hSw); (try go_split_ands); go_simp)
    try with_reducible rfl
  try simp only [Act.put, List.setIfInBounds_toArray, List.set_cons_zero, List.set_cons_succ]
  refine wpAnyH_done (by kernel_rfl) ?_ _
  clear hHeld
  go_wp2_with fail
  go_ret
  exact ⟨rfl, HB6.out⟩

end Go.Proofs.Ytbapifbahhjfgaa
